/- The plain law: what is read is written as the bytes that were read. -/
import Derived.Test.YtnpkpikoeijdcaaDoorEd
set_option linter.unusedVariables false
set_option linter.unusedSimpArgs false
namespace Go.Proofs.YtnpkpikoeijdcaaDoor
open Go

def By8 (l : List Int) : Prop := ∀ x ∈ l, 0 ≤ x ∧ x ≤ 255
theorem By8.tail {x : Int} {l : List Int} (h : By8 (x :: l)) : By8 l := fun y hy => h y (by simp [hy])
theorem By8.right {a l : List Int} (h : By8 (a ++ l)) : By8 l := fun y hy => h y (by simp [hy])
theorem By8.drop {l : List Int} (h : By8 l) (n : Nat) : By8 (l.drop n) := fun y hy => h y (List.mem_of_mem_drop hy)
theorem By8.take {l : List Int} (h : By8 l) (n : Nat) : By8 (l.take n) := fun y hy => h y (List.mem_of_mem_take hy)
theorem By8.at {l : List Int} (h : By8 l) (k : Nat) : 0 ≤ l.getD k 0 ∧ l.getD k 0 ≤ 255 := by
  rcases Nat.lt_or_ge k l.length with hk | hk
  · have : l.getD k 0 = l[k] := by simp [hk]
    rw [this]; exact h _ (List.getElem_mem hk)
  · have : l.getD k 0 = 0 := by simp [List.getElem?_eq_none hk]
    rw [this]; omega
theorem take_succ_getD (l : List Int) (k : Nat) (h : k < l.length) : l.take (k + 1) = l.take k ++ [l.getD k 0] := by
  rw [List.take_succ_eq_append_getElem h]
  have : l.getD k 0 = l[k] := by simp [h]
  rw [this]

theorem tables_inv {α : Type} (rd : Int → List Int → Except Int (α × List Int)) (G : α → Prop) (wr : α → List Int)
    (hstep : ∀ first rest q r, By8 (first :: rest) → ¬ (1 < first / 16 ∨ 3 < first % 16) → rd first rest = .ok (q, r) → G q ∧ wr q ++ r = first :: rest) :
    ∀ (n : Nat) (d : List Int) (acc l : List α), By8 d → rdTables rd n d acc = .ok l → ∃ l', l = acc ++ l' ∧ (∀ q ∈ l', G q) ∧ l'.flatMap wr = d ∧ l'.length ≤ n
  | n, [], acc, l, _, h => by
    have : l = acc := by
      cases n <;> (unfold rdTables at h; injection h with h; exact h.symm)
    exact ⟨[], by simp [this], by simp, rfl, by simp⟩
  | 0, x :: d, acc, l, _, h => by unfold rdTables at h; cases h
  | n + 1, x :: d, acc, l, hb, h => by
    rw [rdTables] at h
    split at h
    · cases h
    rename_i hx
    split at h
    · cases h
    rename_i q r hq
    obtain ⟨g1, g2⟩ := hstep x d q r hb hx hq
    obtain ⟨l', e1, e2, e3, e4⟩ := tables_inv rd G wr hstep n r (acc ++ [q]) l (By8.right (by rw [g2]; exact hb)) h
    refine ⟨q :: l', by rw [e1]; simp, fun y hy => ?_, by rw [List.flatMap_cons, e3, g2], by simp; omega⟩
    rcases List.mem_cons.1 hy with rfl | hy
    · exact g1
    · exact e2 y hy
theorem all_inv {α : Type} (rd : Int → List Int → Except Int (α × List Int)) (G : α → Prop) (wr : α → List Int)
    (hstep : ∀ first rest q r, By8 (first :: rest) → ¬ (1 < first / 16 ∨ 3 < first % 16) → rd first rest = .ok (q, r) → G q ∧ wr q ++ r = first :: rest)
    {d : List Int} {l : List α} (hb : By8 d) (h : rdAll rd d = .ok l) : d ≠ [] ∧ (∀ q ∈ l, G q) ∧ l.flatMap wr = d ∧ l.length ≤ d.length := by
  unfold rdAll at h
  split at h
  · cases h
  rename_i hd
  obtain ⟨l', e1, e2, e3, e4⟩ := tables_inv rd G wr hstep d.length d [] l hb h
  simp at e1
  subst e1
  exact ⟨hd, e2, e3, e4⟩

theorem tab_narrow (l : List Int) (hb : By8 l) : ∀ m, m ≤ l.length → tabS false ((List.range m).map fun k => l.getD k 0) = l.take m
  | 0, _ => by simp [tabS]
  | m + 1, h => by
    rw [List.range_succ, List.map_append, tabS_append, tab_narrow l hb m (by omega), take_succ_getD l m (by omega)]
    have := hb.at m
    simp only [List.map_cons, List.map_nil, tabS]
    congr 1
    simp only [Bool.false_eq_true, if_false]
    congr 1
    omega
theorem tab_wide (l : List Int) (hb : By8 l) : ∀ m, 2 * m ≤ l.length → tabS true ((List.range m).map fun k => l.getD (2 * k) 0 * 256 + l.getD (2 * k + 1) 0) = l.take (2 * m)
  | 0, _ => by simp [tabS]
  | m + 1, h => by
    have e : 2 * (m + 1) = 2 * m + 1 + 1 := by omega
    rw [List.range_succ, List.map_append, tabS_append, tab_wide l hb m (by omega), e, take_succ_getD l (2 * m + 1) (by omega), take_succ_getD l (2 * m) (by omega), List.append_assoc]
    have h1 := hb.at (2 * m)
    have h2 := hb.at (2 * m + 1)
    simp only [List.map_cons, List.map_nil, tabS, if_true, twoS, List.append_nil, List.cons_append, List.nil_append]
    congr 2
    · omega
    · congr 1
      omega
theorem quant_step (first : Int) (rest : List Int) (q : Qt) (r : List Int) (hb : By8 (first :: rest)) (hf : ¬ (1 < first / 16 ∨ 3 < first % 16)) (h : rdQuant first rest = .ok (q, r)) : (QtOk q ∧ qBad q = false) ∧ wrQuant q ++ r = first :: rest := by
  unfold rdQuant at h
  split at h
  · cases h
  rename_i hlen
  split at h
  · cases h
  rename_i hq
  injection h with h
  injection h with h1 h2
  have hfb := hb first (by simp)
  have hbr := hb.tail
  have hq0 : qcheck (first / 16 == 1) (qTab (1 + first / 16).toNat rest) 0 = 0 := by simpa using hq
  have hid : 0 ≤ first % 16 ∧ first % 16 ≤ 3 := by omega
  rcases (by omega : first / 16 = 0 ∨ first / 16 = 1) with hw | hw
  · rw [hw] at h1 h2 hq0 hlen
    have e1 : (1 + (0 : Int)).toNat = 1 := rfl
    have e2 : ((0 : Int) == 1) = false := rfl
    rw [e1] at h1 h2 hq0 hlen
    rw [e2] at h1 hq0
    have ht : tabS false (qTab 1 rest) = rest.take 64 := by
      have := tab_narrow rest hbr 64 (by omega)
      simpa [qTab] using this
    subst h1; subst h2
    refine ⟨⟨⟨qTab_len _ _, by simp only; omega, fun x hx => ?_⟩, ?_⟩, ?_⟩
    · simp only [qTab, List.mem_map, List.mem_range, if_true] at hx
      obtain ⟨k, hk, rfl⟩ := hx
      have := hbr.at k; omega
    · simp [qBad, hq0]; omega
    · simp only [wrQuant, Bool.false_eq_true, if_false, List.cons_append]
      rw [ht]
      simp only [Nat.mul_one, List.take_append_drop]
      congr 1
      omega
  · rw [hw] at h1 h2 hq0 hlen
    have e1 : (1 + (1 : Int)).toNat = 2 := rfl
    have e2 : ((1 : Int) == 1) = true := rfl
    rw [e1] at h1 h2 hq0 hlen
    rw [e2] at h1 hq0
    have ht : tabS true (qTab 2 rest) = rest.take 128 := by
      have := tab_wide rest hbr 64 (by omega)
      simpa [qTab] using this
    subst h1; subst h2
    refine ⟨⟨⟨qTab_len _ _, by simp only; omega, fun x hx => ?_⟩, ?_⟩, ?_⟩
    · simp only [qTab, List.mem_map, List.mem_range] at hx
      obtain ⟨k, hk, rfl⟩ := hx
      rw [if_neg (by decide)]
      have := hbr.at (2 * k); have := hbr.at (2 * k + 1); omega
    · simp [qBad, hq0]; omega
    · simp only [wrQuant, if_true, List.cons_append]
      rw [ht]
      simp only [List.take_append_drop]
      congr 1
      omega
theorem huff_step (first : Int) (rest : List Int) (q : Hf) (r : List Int) (hb : By8 (first :: rest)) (hf : ¬ (1 < first / 16 ∨ 3 < first % 16)) (h : rdHuff first rest = .ok (q, r)) : (HfOk q ∧ hBad q = false) ∧ wrHuff q ++ r = first :: rest := by
  unfold rdHuff at h
  split at h
  · cases h
  split at h
  · cases h
  split at h
  · cases h
  rename_i hl1 hl2 hq
  injection h with h
  injection h with h1 h2
  have hfb := hb first (by simp)
  have hbr := hb.tail
  subst h1; subst h2
  refine ⟨⟨⟨by simp only; omega, by simp only; omega, hbr.take 16, (hbr.drop 16).take _⟩, ?_⟩, ?_⟩
  · have hq0 : hcheck (rest.take 16) ((rest.drop 16).take (sumI (rest.take 16)).toNat) = 0 := by simpa using hq
    simp only [hBad]
    rw [hq0]
    simp; omega
  · simp only [wrHuff, List.cons_append, List.append_assoc]
    rw [List.take_append_drop, List.take_append_drop]
    congr 1
    omega
theorem comps_inv : ∀ (n : Nat) (l : List Int), By8 l → 3 * n ≤ l.length → wrCs (rdComps n l) = l.take (3 * n) ∧ (rdComps n l).length = n ∧ ∀ c ∈ rdComps n l, CmOk c
  | 0, l, _, _ => by simp [rdComps, wrCs]
  | n + 1, l, hb, h => by
    match l, hb, h with
    | [], _, h => simp at h
    | [_], _, h => simp at h; omega
    | [_, _], _, h => simp at h; omega
    | x :: y :: z :: l, hb, h =>
      have hb3 : By8 l := hb.tail.tail.tail
      obtain ⟨h1, h2, h3⟩ := comps_inv n l hb3 (by simp at h; omega)
      have hx := hb x (by simp)
      have hy := hb y (by simp)
      have hz := hb z (by simp)
      have e : rdComps (n + 1) (x :: y :: z :: l) = ⟨x, y / 16, y % 16, z⟩ :: rdComps n l := rfl
      have e3 : 3 * (n + 1) = 3 * n + 1 + 1 + 1 := by omega
      rw [e, e3]
      refine ⟨?_, by simp [h2], fun c hc => ?_⟩
      · have e2 : wrCs (⟨x, y / 16, y % 16, z⟩ :: rdComps n l) = wrComp ⟨x, y / 16, y % 16, z⟩ ++ wrCs (rdComps n l) := rfl
        rw [e2, h1]
        simp only [wrComp, List.cons_append, List.nil_append, List.take_succ_cons]
        congr 2
        omega
      · rcases List.mem_cons.1 hc with rfl | hc
        · exact ⟨by simp only; omega, by simp only; omega, by simp only; omega, by simp only; omega⟩
        · exact h3 c hc
theorem frame_inv {code : Int} {d : List Int} {f : Fr} (hb : By8 d) (h : rdFrame code d = .ok f) : wrFrame f = .ok d ∧ ∀ c ∈ f.comps, CmOk c := by
  unfold rdFrame at h
  split at h
  · cases h
  rename_i hlen
  split at h
  · cases h
  rename_i h8
  simp only at h
  split at h
  · cases h
  rename_i hfs
  injection h with h
  match d, hb, hlen, h8, hfs, h with
  | [], _, hlen, _, _, _ => simp at hlen
  | [_], _, hlen, _, _, _ => simp at hlen
  | [_, _], _, hlen, _, _, _ => simp at hlen
  | [_, _, _], _, hlen, _, _, _ => simp at hlen
  | [_, _, _, _], _, hlen, _, _, _ => simp at hlen
  | [_, _, _, _, _], _, hlen, _, _, _ => simp at hlen
  | x0 :: x1 :: x2 :: x3 :: x4 :: x5 :: l, hb, hlen, h8, hfs, h =>
    have hl : By8 l := hb.tail.tail.tail.tail.tail.tail
    have b1 := hb x1 (by simp)
    have b2 := hb x2 (by simp)
    have b3 := hb x3 (by simp)
    have b4 := hb x4 (by simp)
    have b5 := hb x5 (by simp)
    simp at hlen h8 hfs h
    obtain ⟨hl6, hl3⟩ : True ∧ (l.length : Int) = 3 * x5 := ⟨trivial, by omega⟩
    have hn : l.length / 3 = x5.toNat := by omega
    obtain ⟨c1, c2, c3⟩ := comps_inv (l.length / 3) l hl (by omega)
    rw [List.take_of_length_le (by omega)] at c1
    have hfr : framedS f = 0 := by rw [← h]; exact hfs
    refine ⟨?_, by rw [← h]; exact c3⟩
    unfold wrFrame
    rw [if_neg (by rw [hfr]; simp), ← h]
    simp only
    congr 1
    have c1' : (rdComps (l.length / 3) l).flatMap wrComp = l := c1
    rw [c1', c2]
    simp only [twoS, List.cons_append, List.nil_append]
    have g1 : (x1 * 256 + x2) / 256 % 256 = x1 := by omega
    have g2 : (x1 * 256 + x2) % 256 = x2 := by omega
    have g3 : (x3 * 256 + x4) / 256 % 256 = x3 := by omega
    have g4 : (x3 * 256 + x4) % 256 = x4 := by omega
    have g5 : ((l.length / 3 : Nat) : Int) = x5 := by omega
    rw [g1, g2, g3, g4, g5, h8]
theorem parts_inv : ∀ (n : Nat) (l : List Int) (is : List Int) (ps : List Pt), By8 l → 2 * n ≤ l.length → rdParts n l = .ok (is, ps) → is.length = n ∧ ps.length = n ∧ wrParts is ps = l.take (2 * n) ∧ ps.any pBad = false ∧ ∀ p ∈ ps, PtOk p
  | 0, l, is, ps, _, _, h => by
    unfold rdParts at h
    injection h with h
    injection h with h1 h2
    subst h1; subst h2
    simp [wrParts]
  | n + 1, l, is, ps, hb, hl, h => by
    match l, hb, hl, h with
    | [], _, hl, _ => simp at hl
    | [_], _, hl, _ => simp at hl; omega
    | x :: y :: l, hb, hl, h =>
      have hx := hb x (by simp)
      have hy := hb y (by simp)
      unfold rdParts at h
      split at h
      · cases h
      rename_i hg
      have e0 : (x :: y :: l).drop 2 = l := rfl
      rw [e0] at h
      split at h
      · cases h
      rename_i is' ps' hr
      injection h with h
      injection h with h1 h2
      obtain ⟨a1, a2, a3, a4, a5⟩ := parts_inv n l is' ps' hb.tail.tail (by simp at hl; omega) hr
      simp at h1 h2 hg
      subst h1; subst h2
      have e3 : 2 * (n + 1) = 2 * n + 1 + 1 := by omega
      refine ⟨by simp [a1], by simp [a2], ?_, ?_, fun p hp => ?_⟩
      · rw [wrParts, a3, e3]
        simp only [List.take_succ_cons]
        congr 2
        omega
      · simp only [List.any_cons, a4, Bool.or_false]
        simp [pBad]; omega
      · rcases List.mem_cons.1 hp with rfl | hp
        · exact ⟨by simp only; omega, by simp only; omega⟩
        · exact a5 p hp
theorem scan_inv {d : List Int} {is : List Int} {ps : List Pt} (hb : By8 d) (h : rdScan d = .ok (is, ps)) : wrScan is ps = .ok d ∧ ∀ p ∈ ps, PtOk p := by
  unfold rdScan at h
  split at h
  · cases h
  rename_i hlen
  split at h
  · cases h
  rename_i hr
  match d, hb, hlen, hr, h with
  | [], _, hlen, _, _ => simp at hlen
  | x :: l, hb, hlen, hr, h =>
    have hx := hb x (by simp)
    simp only [List.getD_cons_zero, List.drop_succ_cons, List.drop_zero] at h hr hlen
    simp only [List.length_cons] at hlen hr
    have hl : l.length = 3 + 2 * x.toNat := by
      have : ((l.length + 1 : Nat) : Int) = 4 + 2 * x := by
        by_cases hq : ((l.length + 1 : Nat) : Int) = 4 + 2 * x
        · exact hq
        · exact absurd (.inr hq) hlen
      omega
    obtain ⟨a1, a2, a3, a4, a5⟩ := parts_inv x.toNat l is ps hb.tail (by omega) h
    have hr1 : ¬ (x < 1 ∨ 4 < x) := fun hq => hr (hq.elim .inl (fun hq => .inr (.inl hq)))
    have hr2 : (x :: l).drop (l.length + 1 - 3) = [0, 63, 0] := by
      by_cases hq : (x :: l).drop (l.length + 1 - 3) = [0, 63, 0]
      · exact hq
      · exact absurd (.inr (.inr hq)) hr
    have e1 : l.length + 1 - 3 = 2 * x.toNat + 1 := by omega
    rw [e1, List.drop_succ_cons] at hr2
    refine ⟨?_, a5⟩
    unfold wrScan
    rw [if_neg (by omega), if_neg (by simp [a4]), a2, a3]
    congr 1
    have e2 : ((x.toNat : Nat) : Int) = x := by omega
    rw [e2, ← hr2, List.take_append_drop]
theorem wrData_q (s : Sg) (h : s.code = 0xdb) : wrData s = wrQuants s.quants := by unfold wrData; rw [if_pos h]
theorem wrData_h (s : Sg) (h1 : ¬ s.code = 0xdb) (h : s.code = 0xc4) : wrData s = wrHuffs s.huffs := by unfold wrData; rw [if_neg h1, if_pos h]
theorem wrData_f (s : Sg) (h1 : ¬ s.code = 0xdb) (h2 : ¬ s.code = 0xc4) (h : s.code = 0xc0 ∨ s.code = 0xc1) : wrData s = wrFrame s.frame := by unfold wrData; rw [if_neg h1, if_neg h2, if_pos h]
theorem wrData_r (s : Sg) (h1 : ¬ s.code = 0xdb) (h2 : ¬ s.code = 0xc4) (h3 : ¬ (s.code = 0xc0 ∨ s.code = 0xc1)) (h : s.code = 0xdd) (hr : ¬ (s.restart < 0 ∨ 65535 < s.restart)) : wrData s = .ok (twoS s.restart) := by unfold wrData; rw [if_neg h1, if_neg h2, if_neg h3, if_pos h, if_neg hr]
theorem wrData_s (s : Sg) (h1 : ¬ s.code = 0xdb) (h2 : ¬ s.code = 0xc4) (h3 : ¬ (s.code = 0xc0 ∨ s.code = 0xc1)) (h : s.code = 0xda) : wrData s = wrScan s.ids s.parts := by unfold wrData; rw [if_neg h1, if_neg h2, if_neg h3, if_neg (by omega), if_pos h]
theorem wrData_d (s : Sg) (h1 : ¬ s.code = 0xdb) (h2 : ¬ s.code = 0xc4) (h3 : ¬ (s.code = 0xc0 ∨ s.code = 0xc1)) (h4 : ¬ s.code = 0xda) (h5 : ¬ s.code = 0xdd) : wrData s = .ok s.data := by unfold wrData; rw [if_neg h1, if_neg h2, if_neg h3, if_neg h5, if_neg h4]
theorem data_inv {code a e : Int} {d : List Int} {s : Sg} (hc : 0 ≤ code ∧ code ≤ 255) (hb : By8 d) (hd : d.length ≤ 65533) (h : rdData code a e d = .ok s) :
    s.code = code ∧ s.at_ = a ∧ s.end_ = e ∧ SgOk s ∧ wrData s = .ok d ∧ ((code = 0xdb ∨ code = 0xc4) → d ≠ []) := by
  unfold rdData at h
  split at h
  · rename_i hc1
    cases hr : rdAll rdQuant d with
    | error er => rw [hr] at h; cases h
    | ok l =>
      rw [hr] at h
      injection h with h
      obtain ⟨b1, b2, b3, b4⟩ := all_inv rdQuant (fun q => QtOk q ∧ qBad q = false) wrQuant quant_step hb hr
      subst h
      refine ⟨rfl, rfl, rfl, ⟨hc, fun q hq => (b2 q hq).1, by simp only; omega, by simp [emptySg], by simp [emptySg], by simp [emptySg, emptyFr], by simp [emptySg], by simp [emptySg]⟩, ?_, fun _ => b1⟩
      have hany : l.any qBad = false := by
        rw [List.any_eq_false]
        intro q hq
        simp [(b2 q hq).2]
      refine (wrData_q _ hc1).trans ?_
      rw [wrQuants_eq, hany, if_neg (by simp)]
      exact congrArg Except.ok b3
  rename_i hc1
  split at h
  · rename_i hc2
    cases hr : rdAll rdHuff d with
    | error er => rw [hr] at h; cases h
    | ok l =>
      rw [hr] at h
      injection h with h
      obtain ⟨b1, b2, b3, b4⟩ := all_inv rdHuff (fun q => HfOk q ∧ hBad q = false) wrHuff huff_step hb hr
      subst h
      refine ⟨rfl, rfl, rfl, ⟨hc, by simp [emptySg], by simp [emptySg], fun q hq => (b2 q hq).1, by simp only; omega, by simp [emptySg, emptyFr], by simp [emptySg], by simp [emptySg]⟩, ?_, fun _ => b1⟩
      have hany : l.any hBad = false := by
        rw [List.any_eq_false]
        intro q hq
        simp [(b2 q hq).2]
      refine (wrData_h _ hc1 hc2).trans ?_
      rw [wrHuffs_eq, hany, if_neg (by simp)]
      exact congrArg Except.ok b3
  rename_i hc2
  split at h
  · rename_i hc3
    cases hr : rdFrame code d with
    | error er => rw [hr] at h; cases h
    | ok f =>
      rw [hr] at h
      injection h with h
      obtain ⟨b1, b2⟩ := frame_inv hb hr
      subst h
      refine ⟨rfl, rfl, rfl, ⟨hc, by simp [emptySg], by simp [emptySg], by simp [emptySg], by simp [emptySg], b2, by simp [emptySg], by simp [emptySg]⟩, ?_, fun h => absurd h (by simp [hc1, hc2])⟩
      exact (wrData_f _ hc1 hc2 hc3).trans b1
  rename_i hc3
  split at h
  · rename_i hc4
    cases hr : rdScan d with
    | error er => rw [hr] at h; cases h
    | ok x =>
      obtain ⟨is, ps⟩ := x
      rw [hr] at h
      injection h with h
      obtain ⟨b1, b2⟩ := scan_inv hb hr
      subst h
      refine ⟨rfl, rfl, rfl, ⟨hc, by simp [emptySg], by simp [emptySg], by simp [emptySg], by simp [emptySg], by simp [emptySg, emptyFr], b2, by simp [emptySg]⟩, ?_, fun h => absurd h (by simp [hc1, hc2])⟩
      exact (wrData_s _ hc1 hc2 hc3 hc4).trans b1
  rename_i hc4
  split at h
  · rename_i hc5
    split at h
    · cases h
    rename_i hl
    injection h with h
    subst h
    refine ⟨rfl, rfl, rfl, ⟨hc, by simp [emptySg], by simp [emptySg], by simp [emptySg], by simp [emptySg], by simp [emptySg, emptyFr], by simp [emptySg], by simp [emptySg]⟩, ?_, fun h => absurd h (by simp [hc1, hc2])⟩
    match d, hb, hl with
    | [], _, hl => simp at hl
    | [_], _, hl => simp at hl
    | [x, y], hb, _ =>
      have hx := hb x (by simp)
      have hy := hb y (by simp)
      refine (wrData_r _ hc1 hc2 hc3 hc5 (by simp only [List.getD_cons_zero, List.getD_cons_succ]; omega)).trans ?_
      simp only [List.getD_cons_zero, List.getD_cons_succ, twoS]
      have g1 : (x * 256 + y) / 256 % 256 = x := by omega
      have g2 : (x * 256 + y) % 256 = y := by omega
      rw [g1, g2]
    | _ :: _ :: _ :: _, _, hl => simp at hl
  rename_i hc5
  injection h with h
  subst h
  refine ⟨rfl, rfl, rfl, ⟨hc, by simp [emptySg], by simp [emptySg], by simp [emptySg], by simp [emptySg], by simp [emptySg, emptyFr], by simp [emptySg], by simp only; omega⟩, ?_, fun h => absurd h (by simp [hc1, hc2])⟩
  exact wrData_d _ hc1 hc2 hc3 hc4 hc5
theorem drop_four (f : List Int) (k : Nat) (h : k + 4 ≤ f.length) : f.drop k = f.getD k 0 :: f.getD (k + 1) 0 :: f.getD (k + 2) 0 :: f.getD (k + 3) 0 :: f.drop (k + 4) := by
  have key : ∀ j, j < f.length → f.drop j = f.getD j 0 :: f.drop (j + 1) := fun j hj => by
    rw [List.drop_eq_getElem_cons hj]; simp [hj]
  rw [key k (by omega), key (k + 1) (by omega), key (k + 2) (by omega), key (k + 3) (by omega)]
theorem again_law : AgainLaw := by
  intro f a s hb h
  unfold readS at h
  simp only at h
  split at h
  · cases h
  rename_i ha
  split at h
  · cases h
  rename_i hff
  split at h
  · cases h
  rename_i hn2
  split at h
  · cases h
  rename_i hrf
  split at h
  · cases h
  rename_i hn4
  split at h
  · cases h
  rename_i hlong
  split at h
  · cases h
  rename_i hend
  split at h
  · split at h <;> cases h
  rename_i s' hd
  injection h with h
  subst h
  obtain ⟨k, rfl⟩ := Int.eq_ofNat_of_zero_le (show 0 ≤ a by omega)
  have ek : ((k : Int)).toNat = k := rfl
  rw [ek] at hff hrf hlong hend hd
  have h8 : By8 f := hb
  have r0 := h8.at k
  have r1 := h8.at (k + 1)
  have r2 := h8.at (k + 2)
  have r3 := h8.at (k + 3)
  have hdrop := drop_four f k (by omega)
  obtain ⟨lg, hlg⟩ : ∃ lg : Nat, f.getD (k + 2) 0 * 256 + f.getD (k + 3) 0 = (lg : Int) := Int.eq_ofNat_of_zero_le (by omega)
  rw [hlg] at hlong hend hd
  have elg : ((lg : Int)).toNat = lg := rfl
  rw [elg] at hd
  have hdl : ((f.drop (k + 4)).take (lg - 2)).length = lg - 2 := by simp; omega
  obtain ⟨c1, c2, c3, c4, c5, c6⟩ := data_inv r1 ((h8.drop (k + 4)).take (lg - 2)) (by rw [hdl]; omega) hd
  have hf0 : f.getD k 0 = 255 := by
    by_cases hq : f.getD k 0 = 255
    · exact hq
    · exact absurd ⟨by omega, hq⟩ hff
  refine ⟨c4, ?_, c2, by omega, by omega, by omega⟩
  have hrf0 : refusedS (f.getD (k + 1) 0) = 0 := by
    by_cases hq : refusedS (f.getD (k + 1) 0) = 0
    · exact hq
    · exact absurd hq hrf
  unfold textS
  rw [c1, c5, if_neg (by rw [hrf0]; simp)]
  simp only
  rw [if_neg (by
    rintro (⟨hq, hz⟩ | hq)
    · exact c6 hq (List.length_eq_zero_iff.1 hz)
    · omega)]
  congr 1
  rw [ek, c3, hdrop, hf0, hdl]
  have e5 : ((k : Int) + 2 + (lg : Int) - (k : Int)).toNat = lg - 2 + 1 + 1 + 1 + 1 := by omega
  rw [e5]
  simp only [List.take_succ_cons, twoS, List.cons_append, List.nil_append]
  have g1 : (((lg - 2 : Nat) : Int) + 2) / 256 % 256 = f.getD (k + 2) 0 := by omega
  have g2 : (((lg - 2 : Nat) : Int) + 2) % 256 = f.getD (k + 3) 0 := by omega
  rw [g1, g2]
end Go.Proofs.YtnpkpikoeijdcaaDoor
