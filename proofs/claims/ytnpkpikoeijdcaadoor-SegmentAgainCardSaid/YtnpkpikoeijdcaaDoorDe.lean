/- Contract: segment.written of tables of codes. -/
import Derived.Test.YtnpkpikoeijdcaaDoorDd
set_option linter.unusedVariables false
set_option linter.unusedSimpArgs false
namespace Go.Proofs.YtnpkpikoeijdcaaDoor
open Go Go.RowKit

/-- The law on a drawn region, with a plan, its first n operations readers. -/
theorem wp_region_mixn {P : Program} {Q : Exit → Act → World → Prop} {id : Nat} {a : Act} {w : World} {l : List Oper} (S : World → Prop) (ex : Nat) (σ : List (Nat × Bool)) (perm : List Oper → List Oper) (n : Nat) (hm : P.follows .mixedOrders = true) (hB : mixOK .any l.toArray ex σ = true)
    (hp : perm l = σ.filterMap fun x => l[x.1]?) (hn : ((σ.take n).all (fun x => x.2) && decide (n ≤ σ.length) && decide (n ≤ (perm l).length)) = true) (hS : S w.drew)
    (h : Nonempty (SW S) → (∀ x : SW S, S x.w) → ∀ N : Act → Prop, (∀ a', wpMix P l.toArray Q S ex (σ.drop n) ((perm l).drop n) a' w.drew → N a') → wpQuiet P l.toArray (fun w' => ∃ x : SW S, w' = x.w) N ((perm l).take n) a) : (Code.region id l.toArray true).wp P Q a w := by
  simp only [Bool.and_eq_true, decide_eq_true_eq] at hn
  exact wp_region_mix S ex σ perm hm hB hp hS (wpMix_rd n σ (perm l) a w.drew hn.1.1 hn.1.2 hn.2 (fun N hN => h ⟨⟨_, hS⟩⟩ (fun x => x.h) N hN))
/-- append of bytes that lie somewhere. -/
theorem by_src (w : World) (base : Nat) (v : Value) (l : List Int) (h : By w base v l) (b off m c : Nat) (l2 : List Int) (hl : l2.length = m) (hc : ∀ j u, (u8s l2)[j]? = some u → w.cell? ⟨b, off + j, none⟩ = some u) (hm : 0 < m) (hn : l.length + m ≤ 1000000000) (hbase : base ≤ w.heap.size) :
    apOk Tryd.prog 28 v (.slice (some ⟨b, off, none⟩) m c) w = true ∧
    ∃ g cap w', apV Tryd.prog 28 v (.slice (some ⟨b, off, none⟩) m c) w = .slice (some ⟨g, 0, none⟩) (l.length + m) cap ∧
      apW Tryd.prog 28 v (.slice (some ⟨b, off, none⟩) m c) w = w' ∧
      By w' base (.slice (some ⟨g, 0, none⟩) (l.length + m) cap) (l ++ l2) ∧ Kp (fun k => v.ownBlock = some k) w w' ∧ (v.ownBlock = some g ∨ g = w.heap.size) ∧ g < w'.heap.size := by
  obtain ⟨i0, hi0, hz0, hz1, hz2⟩ := byte_info
  obtain ⟨a1, g, cap, a2, h2, h3, h4, h5⟩ := ap_lies (P := Tryd.prog) w 28 base 5 i0 _ 1 1 Tryd.underlying28 hi0 hz0 hz1 hz2 (by rfl) (by omega) v l.length (u8s l) h ⟨b, off, none⟩ m c (u8s l2) (by simp [u8s, hl])
    (fun j u hj => by rw [addr_add]; exact hc j u hj) (u8s_one l2) hm (by simp [maxLen]; omega) (by omega) hbase
  refine ⟨a1, g, cap, _, a2, rfl, ?_, Kp.of_grown h3 _ (fun i h => h), h4, h5⟩
  unfold By
  have e : u8s (l ++ l2) = u8s l ++ u8s l2 := by simp [u8s]
  rw [e, List.length_append, hl]
  exact h2
/-- The same, the result's form hidden. -/
theorem by_newv (w : World) (base : Nat) (v : Value) (l : List Int) (h : By w base v l) (news : List Int) (hm : 0 < news.length) (hn : l.length + news.length ≤ 1000000000) (hbase : base ≤ w.heap.size) :
    apOk Tryd.prog 28 v (.slice (some ⟨w.heap.size, 0, none⟩) news.length news.length) (w.alloc (.cells (u8s news).toArray 5)).drew = true ∧
    ∃ v' w', apV Tryd.prog 28 v (.slice (some ⟨w.heap.size, 0, none⟩) news.length news.length) (w.alloc (.cells (u8s news).toArray 5)).drew = v' ∧
      apW Tryd.prog 28 v (.slice (some ⟨w.heap.size, 0, none⟩) news.length news.length) (w.alloc (.cells (u8s news).toArray 5)).drew = w' ∧
      By w' base v' (l ++ news) ∧ Kp (fun k => v.ownBlock = some k) w w' ∧ (∀ i, v'.ownBlock = some i → v.ownBlock = some i ∨ w.heap.size ≤ i) := by
  obtain ⟨a1, g, cap, w', a2, a3, a4, a5, a6, a7⟩ := by_newd w base v l h news hm hn hbase
  exact ⟨a1, _, _, a2, a3, a4, a5, fun i hi => by
    have : g = i := by simpa [Value.ownBlock] using hi
    subst this
    exact a6.imp id (fun h => by omega)⟩
theorem by_srcv (w : World) (base : Nat) (v : Value) (l : List Int) (h : By w base v l) (b off m c : Nat) (l2 : List Int) (hl : l2.length = m) (hc : ∀ j u, (u8s l2)[j]? = some u → w.cell? ⟨b, off + j, none⟩ = some u) (hm : 0 < m) (hn : l.length + m ≤ 1000000000) (hbase : base ≤ w.heap.size) :
    apOk Tryd.prog 28 v (.slice (some ⟨b, off, none⟩) m c) w = true ∧
    ∃ v' w', apV Tryd.prog 28 v (.slice (some ⟨b, off, none⟩) m c) w = v' ∧
      apW Tryd.prog 28 v (.slice (some ⟨b, off, none⟩) m c) w = w' ∧
      By w' base v' (l ++ l2) ∧ Kp (fun k => v.ownBlock = some k) w w' ∧ (∀ i, v'.ownBlock = some i → v.ownBlock = some i ∨ w.heap.size ≤ i) := by
  obtain ⟨a1, g, cap, w', a2, a3, a4, a5, a6, a7⟩ := by_src w base v l h b off m c l2 hl hc hm hn hbase
  refine ⟨a1, _, _, a2, a3, ?_, a5, fun i hi => by
    have : g = i := by simpa [Value.ownBlock] using hi
    subst this
    exact a6.imp id (fun h => by omega)⟩
  exact a4
theorem VL.get {α : Type} [Inhabited α] {V : World → α → List Value → Prop} {w : World} {n : Nat} (hn : ∀ a c, V w a c → c.length = n) : ∀ {l : List α} {cs : List Value}, VL V w l cs → ∀ k, k < l.length →
    ∃ c, V w (l.getD k default) c ∧ ∀ j u, c[j]? = some u → cs[k * n + j]? = some u
  | [], _, _, k, hk => by simp at hk
  | a :: l, cs, ⟨c, r, e, h1, h2⟩, 0, _ => by
    refine ⟨c, h1, fun j u hj => ?_⟩
    rw [e]
    have hj' : j < c.length := by
      by_cases h : j < c.length
      · exact h
      · rw [List.getElem?_eq_none (by simpa using h)] at hj; cases hj
    rw [List.getElem?_append_left (by omega)]
    simpa using hj
  | a :: l, cs, ⟨c, r, e, h1, h2⟩, k + 1, hk => by
    obtain ⟨c', h3, h4⟩ := VL.get hn h2 k (by simpa using hk)
    refine ⟨c', h3, fun j u hj => ?_⟩
    have := hn _ _ h1
    rw [e, List.getElem?_append_right (by rw [this, Nat.succ_mul]; omega), ← h4 j u hj]
    congr 1
    rw [this, Nat.succ_mul]; omega
theorem VL.len {α : Type} {V : World → α → List Value → Prop} {w : World} {n : Nat} (hn : ∀ a c, V w a c → c.length = n) : ∀ {l : List α} {cs : List Value}, VL V w l cs → cs.length = l.length * n
  | [], cs, h => by have : cs = [] := h; simp [this]
  | a :: l, cs, ⟨c, r, e, h1, h2⟩ => by rw [e, List.length_append, hn _ _ h1, VL.len hn h2, List.length_cons, Nat.succ_mul]; omega
theorem vl_read {α : Type} [Inhabited α] {V : World → α → List Value → Prop} {w : World} {n : Nat} (hn : ∀ a c, V w a c → c.length = n) (hn0 : 0 < n) {l : List α} {cs : List Value} (hv : VL V w l cs) {b off : Nat}
    (hc : ∀ j u, cs[j]? = some u → w.cell? ⟨b, off + j, none⟩ = some u) (k : Nat) (hk : k < l.length) : ∃ c, V w (l.getD k default) c ∧ rdRow w b (off + k * n) n = some c := by
  obtain ⟨c, h1, h2⟩ := hv.get hn k hk
  refine ⟨c, h1, rdRow_of_cells (hn _ _ h1) hn0 fun j u hj => ?_⟩
  have := hc _ u (h2 j u hj)
  rwa [← Nat.add_assoc] at this
instance : Inhabited Hf := ⟨⟨0, 0, [], []⟩⟩
def HfOk (h : Hf) : Prop := (0 ≤ h.cls ∧ h.cls ≤ 255) ∧ (0 ≤ h.id ∧ h.id ≤ 255) ∧ (∀ x ∈ h.cnt, 0 ≤ x ∧ x ≤ 255) ∧ ∀ x ∈ h.vals, 0 ≤ x ∧ x ≤ 255
def wrHs (l : List Hf) : List Int := l.flatMap wrHuff
theorem wrHuffs_eq : ∀ (l : List Hf), wrHuffs l = if l.any hBad = true then .error 153 else .ok (wrHs l)
  | [] => rfl
  | q :: l => by
    rw [wrHuffs, wrHuffs_eq l]
    by_cases h : hBad q = true
    · rw [if_pos h, if_pos (by simp [h])]
    · rw [if_neg h]
      by_cases h2 : l.any hBad = true
      · rw [if_pos h2, if_pos (by simp [h2])]; rfl
      · rw [if_neg h2, if_neg (by simp only [List.any_cons]; simp [h, h2])]
        simp [wrHs, Except.map]
theorem hcheck_ok {cnt vals : List Int} (h : hcheck cnt vals = 0) : 0 < vals.length ∧ vals.length ≤ 256 := by
  unfold hcheck at h
  split at h
  · omega
  · rename_i h1
    omega
theorem hBad_len {h : Hf} (hb : hBad h = false) (hl : h.cnt.length = 16) : (wrHuff h).length ≤ 273 := by
  simp [hBad] at hb
  have := hcheck_ok hb.2
  simp [wrHuff]; omega
theorem wrHs_len : ∀ (l : List Hf), (∀ h ∈ l, h.cnt.length = 16) → l.any hBad = false → (wrHs l).length ≤ 273 * l.length
  | [], _, _ => by simp [wrHs]
  | q :: l, h, hb => by
    simp only [List.any_cons, Bool.or_eq_false_iff] at hb
    have h1 := hBad_len hb.1 (h q (by simp))
    have h2 := wrHs_len l (fun x hx => h x (by simp [hx])) hb.2
    simp only [wrHs, List.flatMap_cons, List.length_append, List.length_cons] at *
    omega
theorem wrHs_succ (l : List Hf) (k : Nat) (h : k < l.length) : wrHs (l.take (k + 1)) = wrHs (l.take k) ++ wrHuff (l.getD k default) := by
  rw [List.take_succ_eq_append_getElem h]
  have : l.getD k default = l[k] := by simp [h]
  rw [this, wrHs, List.flatMap_append]
  simp [wrHs]
theorem hAny_bad (l : List Hf) (k : Nat) (h : k < l.length) (hb : hBad (l.getD k default) = true) : l.any hBad = true := by
  rw [List.any_eq_true]
  exact ⟨_, mem_getD l k h, hb⟩
theorem hAny_ok (l : List Hf) (k : Nat) (h : k < l.length) (h0 : (l.take k).any hBad = false) (hb : hBad (l.getD k default) = false) : (l.take (k + 1)).any hBad = false := by
  rw [List.take_succ_eq_append_getElem h, List.any_append, h0]
  simp [h] at hb
  simp [hb]
theorem HfV.len {w : World} {h : Hf} {c : List Value} (hv : HfV w h c) : c.length = 19 := by
  obtain ⟨h1, A, n, cap, h2, _⟩ := hv
  rw [h2]; exact hCells_len h1
theorem hCells_at (x y : Int) (t : List Int) (v : Value) (i : Nat) (hi : i < t.length) : (hCells x y t v).toArray[2 + i]? = some (.int .u8 (t.getD i 0)) := by
  have e : 2 + i = i + 1 + 1 := by omega
  rw [e]
  simp [hCells, u8s, List.getElem?_append_left, hi]
theorem hCells_v (x y : Int) (t : List Int) (v : Value) (ht : t.length = 16) : (hCells x y t v).toArray[18]? = some v := by
  simp [hCells, u8s, List.getElem?_append_right, ht]
theorem or_u8' {x y : Int} (hx : 0 ≤ x) (hx2 : x ≤ 1) (hy : 0 ≤ y) (hy2 : y ≤ 3) : bits .or .u8 (x * 16) y = 16 * x + y := or_u8 _ _ hx (by omega) hy (by omega)

set_option maxHeartbeats 2000000 in
set_option maxRecDepth 100000 in
attribute [local go_sem ↓] b_append h_load h_store s_load in
theorem written_dht (w : World) (B : Nat) (a ed kd wd ht rs : Int) (qv fv pv iv : Value) (ds : ByteArray) (l : List Hf) (hcs : List Value) (hA : Option Addr) (hc : Nat)
    (hrd : Rd w B 19 hA l.length hcs) (hvl : VL HfV w l hcs) (hB : B ≤ w.heap.size) (hql : l.length ≤ hc) (hqm : hc ≤ maxLen) (ho : ∀ q ∈ l, HfOk q) (hn : l.length ≤ 1100000) :
    Calls Tryd.prog 42 #[.agg #[.int .u8 196, .int .i64 a, .int .i64 ed, qv, .slice hA l.length hc, .int .u8 kd, .int .i64 wd, .int .i64 ht, fv, pv, iv, .int .i64 rs, .string ds]] w fun e w' =>
      WrPost w (wrHuffs l) e w' := by
  have HRD := Lib.hid hrd
  have HVL := Lib.hid hvl
  have HO := Lib.hid ho
  unfold maxLen at hqm
  obtain ⟨R, hR⟩ : ∃ R, R = wrHuffs l := ⟨_, rfl⟩
  have HE : Hid (R = if l.any hBad = true then .error 153 else .ok (wrHs l)) := by rw [hR, wrHuffs_eq]; exact Lib.hid rfl
  rw [← hR]
  clear hR hrd ho hvl
  obtain ⟨m, hm⟩ : ∃ m, m = l.length := ⟨_, rfl⟩
  have HM := Lib.hid hm
  rw [← hm] at hql hn ⊢
  clear hm
  obtain ⟨w1, hw1⟩ : ∃ w1, w1 = w.alloc (.cells #[.int .u8 196, .int .i64 a, .int .i64 ed, qv, .slice hA m hc, .int .u8 kd, .int .i64 wd, .int .i64 ht, fv, pv, iv, .int .i64 rs, .string ds] 30) := ⟨_, rfl⟩
  have hk1 : Kp Nn w w1 := by rw [hw1]; exact (Kp.refl _ _).alloc _
  have HW1 := Lib.hid hw1
  clear hw1
  go_enter Tryd.func42, Tryd.ntmps42
  go_wp2
  rw [← HW1.out]
  go_loopw [4, 84] (fun v i wr => ∃ (k : Nat), k ≤ m ∧ i = .int .i64 k ∧ By wr (w.heap.size + 1) v (wrHs (l.take k)) ∧ Kp Nn w wr ∧ w.heap.size < wr.heap.size ∧ Hid ((l.take k).any hBad = false)) (fun _ i _ => m - (intOf i).toNat)
  case atStart => exact ⟨0, by omega, rfl, By.nil _ _, hk1, by rw [HW1.out]; simp, rfl⟩
  case round =>
    obtain ⟨k, hk, rfl, hby, hkp, hsz, hall⟩ := hrel
    obtain ⟨wo, rfl⟩ : ∃ wo : World, wo = wr := ⟨_, rfl⟩
    have HY := Lib.hid hby
    clear hby
    by_cases hlt : k < m
    · have hkl : k < l.length := by rw [← HM.out]; exact hlt
      obtain ⟨b, off, rfl, hb, hcc⟩ := HRD.out.at_ (by omega)
      obtain ⟨hcell, hhv, hrow⟩ := vl_read (fun a c h => HfV.len h) (by omega) HVL.out hcc k hkl
      have hrow2 := rdRow_kp hkp hrow (fun h => h)
      have hok := HO.out _ (mem_getD l k hkl)
      have hhv2 := hhv
      have h16 : ∀ h ∈ l.take k, h.cnt.length = 16 := by
        intro h hh
        obtain ⟨j, hj, rfl⟩ := List.getElem_of_mem hh
        obtain ⟨c2, hv2, _⟩ := HVL.out.get (fun a c h => HfV.len h) j (by simp at hj; omega)
        have e : l.getD j default = (l.take k)[j] := by simp at hj; simp [show j < l.length by omega]
        rw [← e]
        exact hv2.1
      have hlen := wrHs_len (l.take k) h16 hall.out
      have hlen2 : (l.take k).length ≤ 1100000 := by simp; omega
      have hl3 : (wrHs (l.take k)).length ≤ 310000000 := by omega
      clear hlen hlen2 h16
      obtain ⟨q, hq⟩ : ∃ q, q = l.getD k default := ⟨_, rfl⟩
      rw [← hq] at hhv2 hok
      have HQ := Lib.hid hq
      clear hq hhv hrow hcc
      obtain ⟨cls, id, cnt, vals⟩ := q
      obtain ⟨hcl, vA, vn, vc, rfl, hv1, hv2, hbs⟩ := hhv2
      obtain ⟨⟨hc0, hc1⟩, ⟨hid0, hid1⟩, hrg, hvg⟩ := hok
      simp only at hcl hid0 hid1 hrg hc0 hc1 hvg hbs hrow2
      obtain rfl := hbs.1
      unfold maxLen at hv2
      have HRG := Lib.hid hrg
      have HVG := Lib.hid hvg
      have HBS := Lib.hid hbs
      have HCL := Lib.hid hcl
      clear hrg hvg hbs
      have hst : okSt (wo.alloc (.cells #[.int .u8 0, .int .u8 0, .int .u8 0, .int .u8 0, .int .u8 0, .int .u8 0, .int .u8 0, .int .u8 0, .int .u8 0, .int .u8 0, .int .u8 0, .int .u8 0, .int .u8 0, .int .u8 0, .int .u8 0, .int .u8 0, .int .u8 0, .int .u8 0, .slice none 0 0] 94)) wo.heap.size 0 19 (hCells cls id cnt (.slice vA vals.length vc)).toArray = true :=
        okSt_new _ _ _ _ _ rfl (by simp [hCells_len hcl]) (by simpa using hCells_one cls id cnt _ rfl)
      have hwr : wrRow (wo.alloc (.cells #[.int .u8 0, .int .u8 0, .int .u8 0, .int .u8 0, .int .u8 0, .int .u8 0, .int .u8 0, .int .u8 0, .int .u8 0, .int .u8 0, .int .u8 0, .int .u8 0, .int .u8 0, .int .u8 0, .int .u8 0, .int .u8 0, .int .u8 0, .int .u8 0, .slice none 0 0] 94)) wo.heap.size 0 (hCells cls id cnt (.slice vA vals.length vc)) = wo.alloc (.cells (hCells cls id cnt (.slice vA vals.length vc)).toArray 94) :=
        wrRow_new _ _ _ _ _ rfl (by rw [hCells_len hcl]; rfl)
      have hq_0 : (hCells cls id cnt (.slice vA vals.length vc))[0]? = some (.int .u8 cls) := rfl
      have hq_1 : (hCells cls id cnt (.slice vA vals.length vc))[1]? = some (.int .u8 id) := rfl
      clear hcl
      by_cases hcls : 1 < cls
      · have HE2 : Hid (R = .error 153) := by
          rw [HE.out, if_pos (hAny_bad l k hkl (by rw [← HQ.out]; simp [hBad, hcls]))]; exact Lib.hid rfl
        go_wp2
        go_ret2
        rw [HE2.out]
        exact ⟨rfl, hkp.alloc _⟩
      by_cases hid3 : 3 < id
      · have HE2 : Hid (R = .error 153) := by
          rw [HE.out, if_pos (hAny_bad l k hkl (by rw [← HQ.out]; simp [hBad, hid3]))]; exact Lib.hid rfl
        go_wp2
        go_ret2
        rw [HE2.out]
        exact ⟨rfl, hkp.alloc _⟩
      obtain ⟨w2, hw2⟩ : ∃ w2, w2 = wo.alloc (.cells (hCells cls id cnt (.slice vA vals.length vc)).toArray 94) := ⟨_, rfl⟩
      have hb2 : Blk w2 wo.heap.size 94 (hCells cls id cnt (.slice vA vals.length vc)).toArray := by rw [hw2]; exact Blk.new _ _ _
      have hk2 : Kp Nn w w2 := by rw [hw2]; exact hkp.alloc _
      have hko2 : Kp Nn wo w2 := by rw [hw2]; exact (Kp.refl _ _).alloc _
      have hy2 : By w2 (w.heap.size + 1) u4 (wrHs (l.take k)) := by rw [hw2]; exact HY.out.alloc _
      have hsz2 : w.heap.size < w2.heap.size := by have := hb2.lt; omega
      have hrs : rdRow w2 wo.heap.size 2 17 = some (specCells cnt (.slice vA vals.length vc)) := by
        rw [hb2.rd 2 17 (by simp [hCells_len HCL.out])]
        simp only [hCells, List.drop_succ_cons, List.drop_zero, specCells]
        rw [List.take_of_length_le (by simp [u8s, HCL.out])]
      have hbs2 : Bs w2 vA vals.length vals := HBS.out.kp hk2 (fun i h => absurd h (fun h => h))
      have hck := huffCheck_c w2 w2.heap.size cnt vals vA vc HCL.out HRG.out HVG.out hbs2.rd (by omega) (by simp [maxLen]; omega)
      rw [hw2] at hrs
      have HCK := Lib.hid hck
      have n2 : u4.ownBlock ≠ some wo.heap.size := fun h => by have := (HY.out.lt _ h).2; omega
      have HW2 := Lib.hid hw2
      have HB2 := Lib.hid hb2
      have HY2 := Lib.hid hy2
      have HBS2 := Lib.hid hbs2
      clear hw2 hb2 hy2 hck hbs2
      go_wp2_with fail
      rw [← HW2.out]
      refine HCK.out.mono ?_
      rintro e w3 ⟨rfl, hk3⟩
      have hkw3 : Kp Nn w w3 := hk2.trans hk3
      have hb3 : Blk w3 wo.heap.size 94 (hCells cls id cnt (.slice vA vals.length vc)).toArray := HB2.out.kp hk3 (fun h => h)
      have hy3 : By w3 (w.heap.size + 1) u4 (wrHs (l.take k)) := HY2.out.kp hk3 (fun i h => absurd h (fun h => h))
      have hsz3 : w.heap.size < w3.heap.size := by have := hk3.size; omega
      clear HCK hst hwr hq_0 hq_1 hrs hk3 hko2
      by_cases hqc : hcheck cnt vals = 0
      case neg =>
        have hb1 : (hcheck cnt vals != 0) = true := by simpa using hqc
        have HE2 : Hid (R = .error 153) := by
          rw [HE.out, if_pos (hAny_bad l k hkl (by rw [← HQ.out]; simp [hBad, hqc]))]; exact Lib.hid rfl
        clear hqc hb3 hy3
        go_wp2
        go_ret2
        rw [HE2.out]
        exact ⟨rfl, hkw3⟩
      have hb1 : (hcheck cnt vals != 0) = false := by simpa using hqc
      have hall2 : Hid ((l.take (k + 1)).any hBad = false) := hAny_ok l k hkl hall.out (by rw [← HQ.out]; simp [hBad, hqc]; omega)
      obtain ⟨hvp, hvm⟩ := hcheck_ok hqc
      obtain ⟨b', off', csv, frv, rfl, hheap, hcs⟩ := HBS.out.2 hvp
      have hcv : ∀ j u, (u8s vals)[j]? = some u → w.cell? ⟨b', off' + j, none⟩ = some u := fun j u hu => by
        rw [cell_of_row w b' (off' + j) csv _ frv hheap]; exact hcs j u hu
      obtain ⟨z, hz, o1⟩ : ∃ z, z = 16 * cls + id ∧ bits .or .u8 (cls * 16) id = z := ⟨_, rfl, or_u8' hc0 (by omega) hid0 (by omega)⟩
      have HZ := Lib.hid hz
      have n3 : u4.ownBlock ≠ some wo.heap.size := n2
      have hlow : ∀ i, u4.ownBlock = some i → w.heap.size + 1 ≤ i := fun i h => (hy3.lt _ h).1
      obtain ⟨ap1, v4, w4, ap2, ap3, hby4, hk4, hat4⟩ := by_newv w3 (w.heap.size + 1) _ _ hy3 [z] (by simp) (by simp; omega) (by omega)
      simp [u8s] at ap1 ap2 ap3
      have hkw4 : Kp Nn w w4 := Kp.comp hkw3 hk4 (fun i hi h => h.elim _root_.id (fun h => by have := hlow _ h; omega))
      have hb4 := hb3.kp hk4 n3
      obtain ⟨bp1, v5, w5, bp2, bp3, hby5, hk45, hat5⟩ := by_srcv w4 (w.heap.size + 1) _ _ hby4 wo.heap.size 2 16 16 cnt HCL.out (fun j u hu => by
        have hj : j < cnt.length := by
          by_cases h : j < cnt.length
          · exact h
          · rw [List.getElem?_eq_none (by rw [u8s_length]; omega)] at hu; cases hu
        rw [hb4.cell, hCells_at _ _ _ _ _ hj, ← u8s_get _ _ hj, hu]) (by omega) (by simp; omega) (by have := hk4.size; omega)
      have hk5 : Kp (fun i => u4.ownBlock = some i) w3 w5 := Kp.comp hk4 hk45 (fun i hi h => h.elim _root_.id (fun h => (hat4 _ h).elim _root_.id (fun h => absurd h (by omega))))
      have hkw5 : Kp Nn w w5 := Kp.comp hkw3 hk5 (fun i hi h => h.elim _root_.id (fun h => by have := hlow _ h; omega))
      obtain ⟨cp1, v6, w6, cp2, cp3, hby6, hk56, hat6⟩ := by_srcv w5 (w.heap.size + 1) _ _ hby5 b' off' vals.length vc vals rfl (fun j u hu => hkw5.cell' (hcv j u hu) (fun h => h)) hvp (by simp [HCL.out]; omega) (by have := hk5.size; omega)
      have hk6 : Kp (fun i => u4.ownBlock = some i) w3 w6 := Kp.comp hk5 hk56 (fun i hi h => h.elim _root_.id (fun h => (hat5 _ h).elim (fun h => (hat4 _ h).elim _root_.id (fun h => absurd h (by omega))) (fun h => absurd h (by have := hk4.size; omega))))
      have hkw6 : Kp Nn w w6 := Kp.comp hkw3 hk6 (fun i hi h => h.elim _root_.id (fun h => by have := hlow _ h; omega))
      have c0 : w3.cell? ⟨wo.heap.size, 0, none⟩ = some (.int .u8 cls) := by rw [hb3.cell]; rfl
      have c1 : w3.cell? ⟨wo.heap.size, 1, none⟩ = some (.int .u8 id) := by rw [hb3.cell]; rfl
      have c18 : w3.cell? ⟨wo.heap.size, 18, none⟩ = some (.slice (some ⟨b', off', none⟩) vals.length vc) := by rw [hb3.cell]; exact hCells_v _ _ _ _ HCL.out
      have HY6 := Lib.hid hby6
      have HKW6 := Lib.hid hkw6
      have hsz6 : w.heap.size < w6.heap.size := by have := hk6.size; omega
      clear hqc hvm hheap hcs hcv hz hlow hby4 hby5 hby6 hat4 hat5 hat6 hk45 hk56 hkw4 hkw5 hkw6 hb4 hb3 hy3
      go_wp2_with fail
      refine wp_region_mixn (fun w' => Kp (fun i => u4.ownBlock = some i) w3 w') 17 [(0,true),(1,true),(2,true),(3,true),(4,true),(5,true),(6,true),(9,true),(10,true),(11,true),(13,true),(14,true),(15,true),(7,false),(8,false),(12,false),(16,false),(17,false)] (fun l => (l.take 7) ++ (((l.drop 9).take 3) ++ (((l.drop 13).take 3) ++ (((l.drop 7).take 2) ++ (((l.drop 12).take 1) ++ (l.drop 16)))))) 13 (by kernel_rfl) (by kernel_rfl) (by kernel_rfl) (by kernel_rfl) ((Kp.refl _ _).drew) ?_
      simp only [List.take_succ_cons, List.take_zero, List.drop_succ_cons, List.drop_zero, List.cons_append, List.nil_append]
      intro hsn hsx N hN
      have fx0 := fun x => (hsx x).cell' c0 n3
      have fx1 := fun x => (hsx x).cell' c1 n3
      have fx2 := fun x => (hsx x).cell' c18 n3
      clear hsx
      repeat (go_big_quiet_step (fail))
      refine wpQuiet_nil (hN _ ?_)
      clear hN N hsn fx0 fx1 fx2
      refine wpMix_act rfl ?_
      intro N hN
      go_wp2
      refine hN _ _ (((Kp.refl _ _).alloc _).drew) ?_
      clear hN N
      refine wpMix_act rfl ?_
      intro N hN
      go_wp2
      refine hN _ _ hk4 ?_
      clear hN N
      refine wpMix_act rfl ?_
      intro N hN
      go_wp2
      refine hN _ _ hk5 ?_
      clear hN N
      refine wpMix_act rfl ?_
      intro N hN
      go_wp2
      refine hN _ _ hk6 ?_
      clear hN N
      refine wpMix_last rfl ?_
      intro N hN
      go_wp2
      go_roundw
      case rel =>
        refine ⟨k + 1, by omega, by go_num, ?_, HKW6.out, hsz6, hall2⟩
        have h := HY6.out
        rw [wrHs_succ l k hkl, ← HQ.out, wrHuff, ← HZ.out]
        simpa using h
      case measure => simp [intOf]; omega
    · have hkm : k = m := by omega
      subst hkm
      have HE2 : Hid (R = .ok (wrHs l)) := by
        have h := hall.out
        rw [List.take_of_length_le (by have := HM.out; omega)] at h
        rw [HE.out, if_neg (by simp [h])]; exact Lib.hid rfl
      have hy2 := HY.out
      rw [List.take_of_length_le (by have := HM.out; omega)] at hy2
      have HY2 := Lib.hid hy2
      clear hy2 hlt
      go_wp2
      go_ret2
      rw [HE2.out]
      exact WrPost.by_ HY2.out hkp
end Go.Proofs.YtnpkpikoeijdcaaDoor
