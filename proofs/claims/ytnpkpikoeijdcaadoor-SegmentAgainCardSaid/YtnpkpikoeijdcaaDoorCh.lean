/- Contracts: segment.fill$1, fill$2, and segment.tables over each. -/
import Derived.Test.YtnpkpikoeijdcaaDoorCg
set_option linter.unusedVariables false
set_option linter.unusedSimpArgs false
namespace Go.Proofs.YtnpkpikoeijdcaaDoor
open Go Go.RowKit

/-- A list of things, each described in its own cells, one behind the other. -/
def VL {α : Type} (V : World → α → List Value → Prop) (w : World) : List α → List Value → Prop
  | [], cs => cs = []
  | a :: l, cs => ∃ c r, cs = c ++ r ∧ V w a c ∧ VL V w l r
theorem VL.snoc {α : Type} {V : World → α → List Value → Prop} {w : World} : ∀ {l : List α} {cs c : List Value} {a : α}, VL V w l cs → V w a c → VL V w (l ++ [a]) (cs ++ c)
  | [], cs, c, a, h, hv => by
    have : cs = [] := h
    subst this
    exact ⟨c, [], by simp, hv, rfl⟩
  | b :: l, cs, c, a, h, hv => by
    obtain ⟨c1, r, rfl, h1, h2⟩ := h
    exact ⟨c1, r ++ c, by simp, h1, VL.snoc h2 hv⟩
theorem VL.mono {α : Type} {V : World → α → List Value → Prop} {w w' : World} (hV : ∀ a c, V w a c → V w' a c) : ∀ {l : List α} {cs : List Value}, VL V w l cs → VL V w' l cs
  | [], _, h => h
  | _ :: _, _, ⟨c, r, e, h1, h2⟩ => ⟨c, r, e, hV _ _ h1, VL.mono hV h2⟩
/-- Of a world's blocks those of S hold no bytes. -/
def NoB (w : World) (S : Nat → Prop) : Prop := ∀ i, S i → ∀ cs fr, w.heap[i]? ≠ some (.cells cs 5 fr)
theorem HfV.kp {S : Nat → Prop} {w w' : World} {h : Hf} {c : List Value} (hv : HfV w h c) (hk : Kp S w w') (hs : NoB w S) : HfV w' h c := by
  obtain ⟨h1, A, n, cap, h2, h3, h4, h5⟩ := hv
  exact ⟨h1, A, n, cap, h2, h3, h4, h5.kp hk hs⟩
def QtV (w : World) (q : Qt) (c : List Value) : Prop := c = qCells q.id q.wide q.tab ∧ q.tab.length = 64
theorem QtV.kp {S : Nat → Prop} {w w' : World} {q : Qt} {c : List Value} (hv : QtV w q c) (hk : Kp S w w') (hs : NoB w S) : QtV w' q c := hv
theorem qTab_len (s : Nat) (l : List Int) : (qTab s l).length = 64 := by simp [qTab]

/-- What reading the tables one behind the other leaves. -/
def TabPost {α : Type} (V : World → α → List Value → Prop) (w : World) (gs gb et size : Nat) (c : Value → Array Value) (r : Except Int (List α)) (e : Ending) (w' : World) : Prop :=
  match r with
  | .error er => e = .returned (.int .i64 er) ∧ Kp (fun i => i = gs ∨ i = gb) w w'
  | .ok l => e = .returned (.int .i64 0) ∧ Kp (fun i => i = gs ∨ i = gb) w w' ∧ ∃ v cs, Blk w' gs 30 (c v) ∧ w'.ownsRow w.heap.size et size v l.length cs ∧ VL V w' l cs

def nextT {α : Type} (rd : Int → List Int → Except Int (α × List Int)) (f : Nat) (acc : List α) : Except Int (α × List Int) → Except Int (List α)
  | .error e => .error e
  | .ok (q, r) => rdTables rd f r (acc ++ [q])
theorem rdTables_step {α : Type} (rd : Int → List Int → Except Int (α × List Int)) (f : Nat) (first : Int) (rest : List Int) (acc : List α) (h : ¬ (1 < first / 16 ∨ 3 < first % 16)) :
    rdTables rd (f + 1) (first :: rest) acc = nextT rd f acc (rd first rest) := by
  rw [rdTables, if_neg h]
  cases rd first rest <;> rfl
theorem rdQuant_ok {first : Int} {d : List Int} {q : Qt} {r : List Int} (h : rdQuant first d = .ok (q, r)) : q.tab.length = 64 := by
  unfold rdQuant at h
  split at h
  · cases h
  · split at h
    · cases h
    · injection h with h; injection h with h _; subst h; exact qTab_len _ _
theorem rdHuff_ok {first : Int} {d : List Int} {q : Hf} {r : List Int} (h : rdHuff first d = .ok (q, r)) : True := trivial
theorem rdQuant_err {first : Int} {d : List Int} {e : Int} (h : rdQuant first d = .error e) : e ≠ 0 := by
  unfold rdQuant at h
  split at h
  · injection h with h; omega
  · split at h
    · injection h with h; omega
    · cases h
theorem rdHuff_err {first : Int} {d : List Int} {e : Int} (h : rdHuff first d = .error e) : e ≠ 0 := by
  unfold rdHuff at h
  split at h
  · injection h with h; omega
  · split at h
    · injection h with h; omega
    · split at h
      · injection h with h; omega
      · cases h
theorem rdTables_bad {α : Type} (rd : Int → List Int → Except Int (α × List Int)) (f : Nat) (first : Int) (rest : List Int) (acc : List α) (h : 1 < first / 16 ∨ 3 < first % 16) :
    rdTables rd (f + 1) (first :: rest) acc = .error 153 := by
  rw [rdTables, if_pos h]
theorem rdTables_nil {α : Type} (rd : Int → List Int → Except Int (α × List Int)) (f : Nat) (acc : List α) : rdTables rd f [] acc = .ok acc := by cases f <;> rfl
theorem rdQuant_rest {first : Int} {d : List Int} {q : Qt} {r : List Int} (h : rdQuant first d = .ok (q, r)) : r.length ≤ d.length := by
  unfold rdQuant at h
  split at h
  · cases h
  · split at h
    · cases h
    · injection h with h; injection h with _ h; subst h; simp
theorem rdHuff_rest {first : Int} {d : List Int} {q : Hf} {r : List Int} (h : rdHuff first d = .ok (q, r)) : r.length ≤ d.length := by
  unfold rdHuff at h
  split at h
  · cases h
  · split at h
    · cases h
    · split at h
      · cases h
      · injection h with h; injection h with _ h; subst h; simp
theorem bl_cons (s : ByteArray) (h : 0 < s.size) : bl s = (s[0].toNat : Int) :: bl (s.extract 1 s.size) := by
  have h1 : 0 < (bl s).length := by rw [bl_length]; exact h
  rw [bl_drop]
  have e := List.drop_eq_getElem_cons h1
  rw [List.drop_zero] at e
  have e2 : (bl s)[0] = (s[0].toNat : Int) := by
    rw [bl_get s 0 h, List.getD_eq_getElem?_getD, List.getElem?_eq_getElem h1]; rfl
  rw [e2] at e
  exact e

/-! ### tables of steps -/
set_option maxHeartbeats 400000 in
theorem qfill_c (w : World) (gs gb bs bb base n : Nat) (first : Int) (h0 : 0 ≤ first) (h1 : first ≤ 31) (str : ByteArray) (hb : Blk w gb 135 #[.string str]) (hs : (str.size : Int) ≤ 1000000)
    (c0 c1 c2 c3 c4 c5 c6 c7 c8 c9 c10 c11 c12 : Value) (hsg : Blk w gs 30 #[c0, c1, c2, c3, c4, c5, c6, c7, c8, c9, c10, c11, c12])
    (hbs : Blk w bs 109 #[.pointer (some ⟨gs, 0, none⟩)]) (hbb : Blk w bb 133 #[.pointer (some ⟨gb, 0, none⟩)])
    (xs : List Value) (hown : w.ownsRow base 103 66 c3 n xs) (hn : n ≤ 1000000) (hbase : base ≤ w.heap.size) :
    Calls Tryd.prog 70 #[.int .u8 first, .pointer (some ⟨bs, 0, none⟩), .pointer (some ⟨bb, 0, none⟩)] w fun e w' =>
      QuantPost w gs gb base n (fun x => #[c0, c1, c2, x, c4, c5, c6, c7, c8, c9, c10, c11, c12]) c3 xs (rdQuant first (bl str)) e w' := by
  have hc1 : w.cell? ⟨bs, 0, none⟩ = some (.pointer (some ⟨gs, 0, none⟩)) := by rw [hbs.cell]; rfl
  have hc2 : w.cell? ⟨bb, 0, none⟩ = some (.pointer (some ⟨gb, 0, none⟩)) := by rw [hbb.cell]; rfl
  have HC := Lib.hid (readQuant_c w gs gb base n first h0 h1 str hb hs c0 c1 c2 c3 c4 c5 c6 c7 c8 c9 c10 c11 c12 hsg xs hown hn hbase)
  clear hb hsg hbs hbb hown
  generalize rdQuant first (bl str) = r at HC ⊢
  go_enter Tryd.func70, Tryd.ntmps70
  go_wp2_with fail
  refine HC.out.mono ?_
  intro e w' hp
  have HP := Lib.hid hp
  cases r with
  | error er =>
    obtain ⟨rfl, _⟩ := hp
    go_wp2
    go_ret
    exact HP.out
  | ok q =>
    obtain ⟨rfl, _⟩ := hp
    go_wp2
    go_ret
    exact HP.out

set_option maxHeartbeats 2000000 in
set_option maxRecDepth 100000 in
theorem qtables_c (w : World) (gs gb bs bb : Nat) (str : ByteArray) (hb : Blk w gb 135 #[.string str]) (hs : (str.size : Int) ≤ 1000000)
    (c0 c1 c2 c3 c4 c5 c6 c7 c8 c9 c10 c11 c12 : Value) (hc : c3 = .slice none 0 0) (hsg : Blk w gs 30 #[c0, c1, c2, c3, c4, c5, c6, c7, c8, c9, c10, c11, c12])
    (hbs : Blk w bs 109 #[.pointer (some ⟨gs, 0, none⟩)]) (hbb : Blk w bb 133 #[.pointer (some ⟨gb, 0, none⟩)]) :
    Calls Tryd.prog 69 #[.pointer (some ⟨gb, 0, none⟩), .func (.func 70) #[] #[.pointer (some ⟨bs, 0, none⟩), .pointer (some ⟨bb, 0, none⟩)]] w fun e w' =>
      TabPost QtV w gs gb 103 66 (fun x => #[c0, c1, c2, x, c4, c5, c6, c7, c8, c9, c10, c11, c12]) (rdAll rdQuant (bl str)) e w' := by
  have hbl := hb.lt
  have hsgl := hsg.lt
  have hbsl := hbs.lt
  have hbbl := hbb.lt
  have hne1 : gs ≠ gb := hsg.ne_ hb (by decide)
  have hne2 : bs ≠ gs := hbs.ne_ hsg (by decide)
  have hne3 : bs ≠ gb := hbs.ne_ hb (by decide)
  have hne4 : bb ≠ gs := hbb.ne_ hsg (by decide)
  have hne5 : bb ≠ gb := hbb.ne_ hb (by decide)
  have hb0 : w.cell? ⟨gb, 0, none⟩ = some (.string str) := by rw [hb.cell]; rfl
  have HB := Lib.hid hb
  have HSG := Lib.hid hsg
  have HBS := Lib.hid hbs
  have HBB := Lib.hid hbb
  clear hb hsg hbs hbb
  by_cases hz : str.size = 0
  · obtain rfl := ba_empty hz
    clear hz
    go_enter Tryd.func69, Tryd.ntmps69
    go_wp2
    go_ret
    exact ⟨rfl, Kp.refl _ _⟩
  have h0 : 0 < str.size := by omega
  clear hz
  have hnem := ba_some h0
  have HR : Hid (rdAll rdQuant (bl str) = rdTables rdQuant (bl str).length (bl str) []) := by
    unfold rdAll
    rw [if_neg (by rw [bl_empty]; omega)]; exact Lib.hid rfl
  obtain ⟨R, hR⟩ : ∃ R, R = rdAll rdQuant (bl str) := ⟨_, rfl⟩
  rw [← hR] at HR ⊢
  clear hR
  go_enter Tryd.func69, Tryd.ntmps69
  go_wp2
  clear hb0 hnem
  go_loopg [5, 6, 7] (str.size + 1) (fun g _ _ _ wr => ∃ (sk : ByteArray) (acc : List Qt) (v : Value) (cs : List Value) (f : Nat), sk.size < g ∧ Blk wr gb 135 #[.string sk] ∧ Blk wr gs 30 #[c0, c1, c2, v, c4, c5, c6, c7, c8, c9, c10, c11, c12] ∧
      wr.ownsRow w.heap.size 103 66 v acc.length cs ∧ VL QtV wr acc cs ∧ Hid (sk.size ≤ f) ∧ acc.length + sk.size ≤ str.size ∧ Hid (R = rdTables rdQuant f (bl sk) acc) ∧ Kp (fun i => i = gs ∨ i = gb) w wr)
  case atStart => exact ⟨str, [], _, [], (bl str).length, by omega, HB.out, by subst hc; exact HSG.out, World.ownsRow_nil _ _ _ _, rfl, by rw [bl_length]; exact Lib.hid (Nat.le_refl _), by simp, HR.out, Kp.refl _ _⟩
  case round =>
    obtain ⟨sk, acc, v, cs, f, hg, hblk, hsr, hown, hvl, hf, hsz, hrr, hkp⟩ := hrel
    have hbr0 : wr.cell? ⟨gb, 0, none⟩ = some (.string sk) := by rw [hblk.cell]; rfl
    have hbrf := hblk.frozen 0
    have HB1 := Lib.hid hblk
    have HS1 := Lib.hid hsr
    have HO1 := Lib.hid hown
    have HV1 := Lib.hid hvl
    have HG := Lib.hid hg
    clear hblk hsr hown hvl hg
    by_cases hz : sk.size = 0
    · obtain rfl := ba_empty hz
      have HE : Hid (R = .ok acc) := by rw [hrr.out]; exact Lib.hid (rdTables_nil _ _ _)
      clear hz hrr hf
      go_wp2
      go_ret
      rw [HE.out]
      exact (⟨rfl, hkp, v, cs, HS1.out, HO1.out, HV1.out⟩ : TabPost QtV w gs gb 103 66 (fun x => #[c0, c1, c2, x, c4, c5, c6, c7, c8, c9, c10, c11, c12]) (.ok acc) (.returned (.int .i64 0)) wr)
    · have hpos : 0 < sk.size := by omega
      clear hz
      have hnem := ba_some hpos
      have hcons := bl_cons sk hpos
      obtain ⟨f', rfl⟩ : ∃ f', f = f' + 1 := ⟨f - 1, by have := hf.out; omega⟩
      have hsx : (sk.extract 1 sk.size).size = sk.size - 1 := by simp
      have e1 : (1 : Int).toNat = 1 := rfl
      obtain ⟨y, vy⟩ : ∃ y, y = (sk[0].toNat : Int) := ⟨_, rfl⟩
      rw [← vy] at hcons
      have hyr := bl_range sk 0
      rw [← bl_get sk 0 hpos, ← vy] at hyr
      obtain ⟨hya, hyb⟩ := hyr
      have HC := Lib.hid hcons
      have hfst : bl (sk.extract 0 1) = [y] := by
        rw [bl_take, hcons]; simp
      obtain ⟨fs, hfs⟩ : ∃ fs, fs = sk.extract 0 1 := ⟨_, rfl⟩
      rw [← hfs] at hfst
      have hfsz : fs.size = 1 := by rw [← bl_length, hfst]; rfl
      have hf0 : 0 < fs.size := by omega
      have hgy : (fs[0].toNat : Int) = y := by rw [bl_get fs 0 hf0, hfst]; rfl
      have hfi : (0 : Int) < (fs.size : Int) := by omega
      obtain ⟨yl, hyl⟩ : ∃ z, bits .and .u8 y 15 = z := ⟨_, rfl⟩
      have HYL : Hid (yl = y % 16) := hyl.symm.trans (and15 y hya hyb)
      have HFS := Lib.hid hfs
      have HFZ := Lib.hid hfsz
      clear hfs hfst hfsz vy hcons
      go_wp2_with fail
      refine (take_yes _ gb sk 1 hbr0 hbrf (by omega) (by omega)).mono ?_
      rintro e w1 ⟨rfl, rfl⟩
      rw [e1, ← HFS.out]
      clear e1
      obtain ⟨s1, hs1⟩ : ∃ s1, s1 = sk.extract 1 sk.size := ⟨_, rfl⟩
      rw [← hs1] at hsx HC ⊢
      have HSX := Lib.hid hsx
      clear hs1 hsx
      obtain ⟨w1, hw1⟩ : ∃ w1, w1 = wr.setCell ⟨gb, 0, none⟩ (.string s1) := ⟨_, rfl⟩
      rw [← hw1]
      have hb1 : Blk w1 gb 135 #[.string s1] := by rw [hw1]; exact HB1.out.set_ 0 _
      have hs1 : Blk w1 gs 30 #[c0, c1, c2, v, c4, c5, c6, c7, c8, c9, c10, c11, c12] := by rw [hw1]; exact HS1.out.far hne1 _
      have hk1 : Kp (fun i => i = gs ∨ i = gb) w w1 := by rw [hw1]; exact hkp.setCell (.inl (.inr rfl)) _
      have hkr : Kp (fun i => i = gb) wr w1 := by rw [hw1]; exact Kp.setCell (S := fun i => i = gb) (Kp.refl _ _) (.inl rfl) _
      have ho1 : w1.ownsRow w.heap.size 103 66 v acc.length cs := own_kp HO1.out hkr (by
        rintro g hg rfl
        exact own_blk_ne HO1.out HB1.out (by decide) hg)
      have hnb1 : NoB wr (fun i => i = gb) := by
        rintro i rfl
        exact HB1.out.noByte (by decide)
      have hv1 : VL QtV w1 acc cs := HV1.out.mono (fun a c h => h.kp hkr hnb1)
      have hbs1 : Blk w1 bs 109 #[.pointer (some ⟨gs, 0, none⟩)] := HBS.out.kp hk1 (by simp [hne2, hne3])
      have hbb1 : Blk w1 bb 133 #[.pointer (some ⟨gb, 0, none⟩)] := HBB.out.kp hk1 (by simp [hne4, hne5])
      have hsz1 := hk1.size
      clear hw1 hkr hnb1 hbr0 hbrf
      by_cases hA : 1 < y / 16
      · have HE : Hid (R = .error 153) := by rw [hrr.out, HC.out]; exact Lib.hid (rdTables_bad _ _ _ _ _ (.inl hA))
        clear hrr hf
        go_wp2
        go_ret
        rw [HE.out]
        exact ⟨rfl, hk1⟩
      by_cases hBb : 3 < yl
      · have HE : Hid (R = .error 153) := by rw [hrr.out, HC.out]; exact Lib.hid (rdTables_bad _ _ _ _ _ (.inr (by rw [← HYL.out]; exact hBb)))
        clear hrr hf
        go_wp2
        go_ret
        rw [HE.out]
        exact ⟨rfl, hk1⟩
      have HST : Hid (R = nextT rdQuant f' acc (rdQuant y (bl s1))) := by
        rw [hrr.out, HC.out]; exact Lib.hid (rdTables_step _ _ _ _ _ (by rw [← HYL.out]; omega))
      have hacc : acc.length ≤ 1000000 := by omega
      have hres := qfill_c w1 gs gb bs bb w.heap.size acc.length y hya (by omega) s1 hb1 (by have := HSX.out; omega) c0 c1 c2 v c4 c5 c6 c7 c8 c9 c10 c11 c12 hs1 hbs1 hbb1 cs ho1 hacc hsz1
      have hrest := fun q r (h : rdQuant y (bl s1) = .ok (q, r)) => rdQuant_rest h
      have herr := fun e (h : rdQuant y (bl s1) = .error e) => rdQuant_err h
      have HERR := Lib.hid herr
      have hokk := fun q r (h : rdQuant y (bl s1) = .ok (q, r)) => rdQuant_ok h
      have HOKK := Lib.hid hokk
      have HRES := Lib.hid hres
      have HREST := Lib.hid hrest
      have HB2 := Lib.hid hb1
      have HS2 := Lib.hid hs1
      have HO2 := Lib.hid ho1
      have HV2 := Lib.hid hv1
      clear hokk herr hres hrest hrr hb1 hs1 ho1 hv1 hbs1 hbb1
      generalize hrd : rdQuant y (bl s1) = r at *
      clear hrd
      go_wp2_with fail
      refine HRES.out.mono ?_
      clear HRES
      intro e w2 hp
      cases r with
      | error er =>
        obtain ⟨rfl, hk2⟩ := hp
        have HE : Hid (R = .error er) := HST.out
        have hk3 : Kp (fun i => i = gs ∨ i = gb) w w2 := Kp.comp hk1 hk2 (by
          intro i hi h
          rcases h with h | h | h | h
          · exact h
          · exact .inl h
          · exact .inr h
          · have := (HO2.out.lt _ h).1
            omega)
        clear HST
        have he0 : er ≠ 0 := HERR.out er rfl
        have hq0 : (er != 0) = true := by simp [he0]
        clear he0
        go_wp2
        go_ret
        rw [HE.out]
        exact ⟨rfl, hk3⟩
      | ok q =>
        obtain ⟨q, rest⟩ := q
        obtain ⟨rfl, hp⟩ := hp
        obtain ⟨s2, v2, hs2, hb2, hsg2, hown2, hk2⟩ := hp
        obtain ⟨hc, hce⟩ : ∃ hc, hc = qCells q.id q.wide q.tab := ⟨_, rfl⟩
        rw [← hce] at hown2
        have hvq : QtV w2 q hc := ⟨hce, HOKK.out q rest rfl⟩
        clear hce
        have hrl := HREST.out q rest rfl
        rw [bl_length] at hrl
        have hk3 : Kp (fun i => i = gs ∨ i = gb) w w2 := Kp.comp hk1 hk2 (by
          intro i hi h
          rcases h with h | h | h | h
          · exact h
          · exact .inl h
          · exact .inr h
          · have := (HO2.out.lt _ h).1
            omega)
        have hnb : NoB w1 (fun i => i = gs ∨ i = gb ∨ v.ownBlock = some i) := by
          rintro i (rfl | rfl | h)
          · exact HS2.out.noByte (by decide)
          · exact HB2.out.noByte (by decide)
          · exact own_noByte HO2.out (by decide) h
        have hv3 : VL QtV w2 (acc ++ [q]) (cs ++ hc) := (HV2.out.mono (fun a c h => h.kp hk2 hnb)).snoc hvq
        have hs2z : s2.size = rest.length := by rw [← bl_length, hs2]
        have HST2 : Hid (R = rdTables rdQuant f' (bl s2) (acc ++ [q])) := by rw [hs2]; exact HST.out
        have HB3 := Lib.hid hb2
        have HS3 := Lib.hid hsg2
        have HO3 := Lib.hid hown2
        have HV3 := Lib.hid hv3
        have HZ := Lib.hid hs2z
        have HRL := Lib.hid hrl
        clear hs2 hb2 hsg2 hown2 hvq hk2 hnb hv3 hs2z HST hrl
        go_wp2
        go_roundg (gk - 1)
        case measure => have := HG.out; omega
        case rel =>
          have hS := HSX.out
          have hz := HZ.out
          have hl := HRL.out
          have hG := HG.out
          refine ⟨s2, acc ++ [q], v2, cs ++ hc, f', by omega, HB3.out, HS3.out, by simpa using HO3.out, HV3.out, ?_, by simp; omega, HST2, hk3⟩
          have := hf.out
          exact Lib.hid (by omega)

/-! ### tables of codes -/
set_option maxHeartbeats 400000 in
theorem hfill_c (w : World) (gs gb bs bb base n : Nat) (first : Int) (h0 : 0 ≤ first) (h1 : first ≤ 31) (str : ByteArray) (hb : Blk w gb 135 #[.string str]) (hs : (str.size : Int) ≤ 1000000)
    (c0 c1 c2 c3 c4 c5 c6 c7 c8 c9 c10 c11 c12 : Value) (hsg : Blk w gs 30 #[c0, c1, c2, c3, c4, c5, c6, c7, c8, c9, c10, c11, c12])
    (hbs : Blk w bs 109 #[.pointer (some ⟨gs, 0, none⟩)]) (hbb : Blk w bb 133 #[.pointer (some ⟨gb, 0, none⟩)])
    (xs : List Value) (hown : w.ownsRow base 94 19 c4 n xs) (hn : n ≤ 1000000) (hbase : base ≤ w.heap.size) :
    Calls Tryd.prog 72 #[.int .u8 first, .pointer (some ⟨bs, 0, none⟩), .pointer (some ⟨bb, 0, none⟩)] w fun e w' =>
      HuffPost w gs gb base n (fun x => #[c0, c1, c2, c3, x, c5, c6, c7, c8, c9, c10, c11, c12]) c4 xs (rdHuff first (bl str)) e w' := by
  have hc1 : w.cell? ⟨bs, 0, none⟩ = some (.pointer (some ⟨gs, 0, none⟩)) := by rw [hbs.cell]; rfl
  have hc2 : w.cell? ⟨bb, 0, none⟩ = some (.pointer (some ⟨gb, 0, none⟩)) := by rw [hbb.cell]; rfl
  have HC := Lib.hid (readHuff_c w gs gb base n first h0 h1 str hb hs c0 c1 c2 c3 c4 c5 c6 c7 c8 c9 c10 c11 c12 hsg xs hown hn hbase)
  clear hb hsg hbs hbb hown
  generalize rdHuff first (bl str) = r at HC ⊢
  go_enter Tryd.func72, Tryd.ntmps72
  go_wp2_with fail
  refine HC.out.mono ?_
  intro e w' hp
  have HP := Lib.hid hp
  cases r with
  | error er =>
    obtain ⟨rfl, _⟩ := hp
    go_wp2
    go_ret
    exact HP.out
  | ok q =>
    obtain ⟨rfl, _⟩ := hp
    go_wp2
    go_ret
    exact HP.out

set_option maxHeartbeats 2000000 in
set_option maxRecDepth 100000 in
theorem htables_c (w : World) (gs gb bs bb : Nat) (str : ByteArray) (hb : Blk w gb 135 #[.string str]) (hs : (str.size : Int) ≤ 1000000)
    (c0 c1 c2 c3 c4 c5 c6 c7 c8 c9 c10 c11 c12 : Value) (hc : c4 = .slice none 0 0) (hsg : Blk w gs 30 #[c0, c1, c2, c3, c4, c5, c6, c7, c8, c9, c10, c11, c12])
    (hbs : Blk w bs 109 #[.pointer (some ⟨gs, 0, none⟩)]) (hbb : Blk w bb 133 #[.pointer (some ⟨gb, 0, none⟩)]) :
    Calls Tryd.prog 69 #[.pointer (some ⟨gb, 0, none⟩), .func (.func 72) #[] #[.pointer (some ⟨bs, 0, none⟩), .pointer (some ⟨bb, 0, none⟩)]] w fun e w' =>
      TabPost HfV w gs gb 94 19 (fun x => #[c0, c1, c2, c3, x, c5, c6, c7, c8, c9, c10, c11, c12]) (rdAll rdHuff (bl str)) e w' := by
  have hbl := hb.lt
  have hsgl := hsg.lt
  have hbsl := hbs.lt
  have hbbl := hbb.lt
  have hne1 : gs ≠ gb := hsg.ne_ hb (by decide)
  have hne2 : bs ≠ gs := hbs.ne_ hsg (by decide)
  have hne3 : bs ≠ gb := hbs.ne_ hb (by decide)
  have hne4 : bb ≠ gs := hbb.ne_ hsg (by decide)
  have hne5 : bb ≠ gb := hbb.ne_ hb (by decide)
  have hb0 : w.cell? ⟨gb, 0, none⟩ = some (.string str) := by rw [hb.cell]; rfl
  have HB := Lib.hid hb
  have HSG := Lib.hid hsg
  have HBS := Lib.hid hbs
  have HBB := Lib.hid hbb
  clear hb hsg hbs hbb
  by_cases hz : str.size = 0
  · obtain rfl := ba_empty hz
    clear hz
    go_enter Tryd.func69, Tryd.ntmps69
    go_wp2
    go_ret
    exact ⟨rfl, Kp.refl _ _⟩
  have h0 : 0 < str.size := by omega
  clear hz
  have hnem := ba_some h0
  have HR : Hid (rdAll rdHuff (bl str) = rdTables rdHuff (bl str).length (bl str) []) := by
    unfold rdAll
    rw [if_neg (by rw [bl_empty]; omega)]; exact Lib.hid rfl
  obtain ⟨R, hR⟩ : ∃ R, R = rdAll rdHuff (bl str) := ⟨_, rfl⟩
  rw [← hR] at HR ⊢
  clear hR
  go_enter Tryd.func69, Tryd.ntmps69
  go_wp2
  clear hb0 hnem
  go_loopg [5, 6, 7] (str.size + 1) (fun g _ _ _ wr => ∃ (sk : ByteArray) (acc : List Hf) (v : Value) (cs : List Value) (f : Nat), sk.size < g ∧ Blk wr gb 135 #[.string sk] ∧ Blk wr gs 30 #[c0, c1, c2, c3, v, c5, c6, c7, c8, c9, c10, c11, c12] ∧
      wr.ownsRow w.heap.size 94 19 v acc.length cs ∧ VL HfV wr acc cs ∧ Hid (sk.size ≤ f) ∧ acc.length + sk.size ≤ str.size ∧ Hid (R = rdTables rdHuff f (bl sk) acc) ∧ Kp (fun i => i = gs ∨ i = gb) w wr)
  case atStart => exact ⟨str, [], _, [], (bl str).length, by omega, HB.out, by subst hc; exact HSG.out, World.ownsRow_nil _ _ _ _, rfl, by rw [bl_length]; exact Lib.hid (Nat.le_refl _), by simp, HR.out, Kp.refl _ _⟩
  case round =>
    obtain ⟨sk, acc, v, cs, f, hg, hblk, hsr, hown, hvl, hf, hsz, hrr, hkp⟩ := hrel
    have hbr0 : wr.cell? ⟨gb, 0, none⟩ = some (.string sk) := by rw [hblk.cell]; rfl
    have hbrf := hblk.frozen 0
    have HB1 := Lib.hid hblk
    have HS1 := Lib.hid hsr
    have HO1 := Lib.hid hown
    have HV1 := Lib.hid hvl
    have HG := Lib.hid hg
    clear hblk hsr hown hvl hg
    by_cases hz : sk.size = 0
    · obtain rfl := ba_empty hz
      have HE : Hid (R = .ok acc) := by rw [hrr.out]; exact Lib.hid (rdTables_nil _ _ _)
      clear hz hrr hf
      go_wp2
      go_ret
      rw [HE.out]
      exact (⟨rfl, hkp, v, cs, HS1.out, HO1.out, HV1.out⟩ : TabPost HfV w gs gb 94 19 (fun x => #[c0, c1, c2, c3, x, c5, c6, c7, c8, c9, c10, c11, c12]) (.ok acc) (.returned (.int .i64 0)) wr)
    · have hpos : 0 < sk.size := by omega
      clear hz
      have hnem := ba_some hpos
      have hcons := bl_cons sk hpos
      obtain ⟨f', rfl⟩ : ∃ f', f = f' + 1 := ⟨f - 1, by have := hf.out; omega⟩
      have hsx : (sk.extract 1 sk.size).size = sk.size - 1 := by simp
      have e1 : (1 : Int).toNat = 1 := rfl
      obtain ⟨y, vy⟩ : ∃ y, y = (sk[0].toNat : Int) := ⟨_, rfl⟩
      rw [← vy] at hcons
      have hyr := bl_range sk 0
      rw [← bl_get sk 0 hpos, ← vy] at hyr
      obtain ⟨hya, hyb⟩ := hyr
      have HC := Lib.hid hcons
      have hfst : bl (sk.extract 0 1) = [y] := by
        rw [bl_take, hcons]; simp
      obtain ⟨fs, hfs⟩ : ∃ fs, fs = sk.extract 0 1 := ⟨_, rfl⟩
      rw [← hfs] at hfst
      have hfsz : fs.size = 1 := by rw [← bl_length, hfst]; rfl
      have hf0 : 0 < fs.size := by omega
      have hgy : (fs[0].toNat : Int) = y := by rw [bl_get fs 0 hf0, hfst]; rfl
      have hfi : (0 : Int) < (fs.size : Int) := by omega
      obtain ⟨yl, hyl⟩ : ∃ z, bits .and .u8 y 15 = z := ⟨_, rfl⟩
      have HYL : Hid (yl = y % 16) := hyl.symm.trans (and15 y hya hyb)
      have HFS := Lib.hid hfs
      have HFZ := Lib.hid hfsz
      clear hfs hfst hfsz vy hcons
      go_wp2_with fail
      refine (take_yes _ gb sk 1 hbr0 hbrf (by omega) (by omega)).mono ?_
      rintro e w1 ⟨rfl, rfl⟩
      rw [e1, ← HFS.out]
      clear e1
      obtain ⟨s1, hs1⟩ : ∃ s1, s1 = sk.extract 1 sk.size := ⟨_, rfl⟩
      rw [← hs1] at hsx HC ⊢
      have HSX := Lib.hid hsx
      clear hs1 hsx
      obtain ⟨w1, hw1⟩ : ∃ w1, w1 = wr.setCell ⟨gb, 0, none⟩ (.string s1) := ⟨_, rfl⟩
      rw [← hw1]
      have hb1 : Blk w1 gb 135 #[.string s1] := by rw [hw1]; exact HB1.out.set_ 0 _
      have hs1 : Blk w1 gs 30 #[c0, c1, c2, c3, v, c5, c6, c7, c8, c9, c10, c11, c12] := by rw [hw1]; exact HS1.out.far hne1 _
      have hk1 : Kp (fun i => i = gs ∨ i = gb) w w1 := by rw [hw1]; exact hkp.setCell (.inl (.inr rfl)) _
      have hkr : Kp (fun i => i = gb) wr w1 := by rw [hw1]; exact Kp.setCell (S := fun i => i = gb) (Kp.refl _ _) (.inl rfl) _
      have ho1 : w1.ownsRow w.heap.size 94 19 v acc.length cs := own_kp HO1.out hkr (by
        rintro g hg rfl
        exact own_blk_ne HO1.out HB1.out (by decide) hg)
      have hnb1 : NoB wr (fun i => i = gb) := by
        rintro i rfl
        exact HB1.out.noByte (by decide)
      have hv1 : VL HfV w1 acc cs := HV1.out.mono (fun a c h => h.kp hkr hnb1)
      have hbs1 : Blk w1 bs 109 #[.pointer (some ⟨gs, 0, none⟩)] := HBS.out.kp hk1 (by simp [hne2, hne3])
      have hbb1 : Blk w1 bb 133 #[.pointer (some ⟨gb, 0, none⟩)] := HBB.out.kp hk1 (by simp [hne4, hne5])
      have hsz1 := hk1.size
      clear hw1 hkr hnb1 hbr0 hbrf
      by_cases hA : 1 < y / 16
      · have HE : Hid (R = .error 153) := by rw [hrr.out, HC.out]; exact Lib.hid (rdTables_bad _ _ _ _ _ (.inl hA))
        clear hrr hf
        go_wp2
        go_ret
        rw [HE.out]
        exact ⟨rfl, hk1⟩
      by_cases hBb : 3 < yl
      · have HE : Hid (R = .error 153) := by rw [hrr.out, HC.out]; exact Lib.hid (rdTables_bad _ _ _ _ _ (.inr (by rw [← HYL.out]; exact hBb)))
        clear hrr hf
        go_wp2
        go_ret
        rw [HE.out]
        exact ⟨rfl, hk1⟩
      have HST : Hid (R = nextT rdHuff f' acc (rdHuff y (bl s1))) := by
        rw [hrr.out, HC.out]; exact Lib.hid (rdTables_step _ _ _ _ _ (by rw [← HYL.out]; omega))
      have hacc : acc.length ≤ 1000000 := by omega
      have hres := hfill_c w1 gs gb bs bb w.heap.size acc.length y hya (by omega) s1 hb1 (by have := HSX.out; omega) c0 c1 c2 c3 v c5 c6 c7 c8 c9 c10 c11 c12 hs1 hbs1 hbb1 cs ho1 hacc hsz1
      have hrest := fun q r (h : rdHuff y (bl s1) = .ok (q, r)) => rdHuff_rest h
      have herr := fun e (h : rdHuff y (bl s1) = .error e) => rdHuff_err h
      have HERR := Lib.hid herr
      have hokk := fun q r (h : rdHuff y (bl s1) = .ok (q, r)) => rdHuff_ok h
      have HOKK := Lib.hid hokk
      have HRES := Lib.hid hres
      have HREST := Lib.hid hrest
      have HB2 := Lib.hid hb1
      have HS2 := Lib.hid hs1
      have HO2 := Lib.hid ho1
      have HV2 := Lib.hid hv1
      clear hokk herr hres hrest hrr hb1 hs1 ho1 hv1 hbs1 hbb1
      generalize hrd : rdHuff y (bl s1) = r at *
      clear hrd
      go_wp2_with fail
      refine HRES.out.mono ?_
      clear HRES
      intro e w2 hp
      cases r with
      | error er =>
        obtain ⟨rfl, hk2⟩ := hp
        have HE : Hid (R = .error er) := HST.out
        have hk3 : Kp (fun i => i = gs ∨ i = gb) w w2 := Kp.comp hk1 hk2 (by
          intro i hi h
          rcases h with h | h | h | h
          · exact h
          · exact .inl h
          · exact .inr h
          · have := (HO2.out.lt _ h).1
            omega)
        clear HST
        have he0 : er ≠ 0 := HERR.out er rfl
        have hq0 : (er != 0) = true := by simp [he0]
        clear he0
        go_wp2
        go_ret
        rw [HE.out]
        exact ⟨rfl, hk3⟩
      | ok q =>
        obtain ⟨q, rest⟩ := q
        obtain ⟨rfl, hp⟩ := hp
        obtain ⟨s2, v2, hc, hs2, hb2, hsg2, hown2, hvq, hk2⟩ := hp
        have hrl := HREST.out q rest rfl
        rw [bl_length] at hrl
        have hk3 : Kp (fun i => i = gs ∨ i = gb) w w2 := Kp.comp hk1 hk2 (by
          intro i hi h
          rcases h with h | h | h | h
          · exact h
          · exact .inl h
          · exact .inr h
          · have := (HO2.out.lt _ h).1
            omega)
        have hnb : NoB w1 (fun i => i = gs ∨ i = gb ∨ v.ownBlock = some i) := by
          rintro i (rfl | rfl | h)
          · exact HS2.out.noByte (by decide)
          · exact HB2.out.noByte (by decide)
          · exact own_noByte HO2.out (by decide) h
        have hv3 : VL HfV w2 (acc ++ [q]) (cs ++ hc) := (HV2.out.mono (fun a c h => h.kp hk2 hnb)).snoc hvq
        have hs2z : s2.size = rest.length := by rw [← bl_length, hs2]
        have HST2 : Hid (R = rdTables rdHuff f' (bl s2) (acc ++ [q])) := by rw [hs2]; exact HST.out
        have HB3 := Lib.hid hb2
        have HS3 := Lib.hid hsg2
        have HO3 := Lib.hid hown2
        have HV3 := Lib.hid hv3
        have HZ := Lib.hid hs2z
        have HRL := Lib.hid hrl
        clear hs2 hb2 hsg2 hown2 hvq hk2 hnb hv3 hs2z HST hrl
        go_wp2
        go_roundg (gk - 1)
        case measure => have := HG.out; omega
        case rel =>
          have hS := HSX.out
          have hz := HZ.out
          have hl := HRL.out
          have hG := HG.out
          refine ⟨s2, acc ++ [q], v2, cs ++ hc, f', by omega, HB3.out, HS3.out, by simpa using HO3.out, HV3.out, ?_, by simp; omega, HST2, hk3⟩
          have := hf.out
          exact Lib.hid (by omega)
end Go.Proofs.YtnpkpikoeijdcaaDoor
