/- Contract: segment.written of tables of steps. -/
import Derived.Test.YtnpkpikoeijdcaaDoorDc
set_option linter.unusedVariables false
set_option linter.unusedSimpArgs false
namespace Go.Proofs.YtnpkpikoeijdcaaDoor
open Go Go.RowKit

theorem rdRow_of_cells {w : World} {g off n : Nat} {cs : List Value} (hl : cs.length = n) (hn : 0 < n) (hc : ∀ j u, cs[j]? = some u → w.cell? ⟨g, off + j, none⟩ = some u) : rdRow w g off n = some cs := by
  have h0 := hc 0 cs[0] (by simp)
  unfold rdRow
  cases hg : w.heap[g]? with
  | none => simp [World.cell?, hg] at h0
  | some o =>
    cases o with
    | cells c t fr =>
      have hcell : ∀ j, w.cell? ⟨g, off + j, none⟩ = c[off + j]? := fun j => by simp [World.cell?, hg]
      have hlast := hc (n - 1) cs[n - 1] (by simp)
      rw [hcell] at hlast
      have hlt : off + (n - 1) < c.size := by
        rcases Nat.lt_or_ge (off + (n - 1)) c.size with h | h
        · exact h
        · rw [Array.getElem?_eq_none h] at hlast; cases hlast
      simp only
      rw [if_pos (by omega)]
      congr 1
      apply List.ext_getElem?
      intro j
      rw [List.getElem?_take]
      by_cases hj : j < n
      · rw [if_pos hj, List.getElem?_drop]
        have := hc j cs[j] (by simp)
        rw [hcell] at this
        rw [Array.getElem?_toList, this]
        simp
      · rw [if_neg hj]; exact (List.getElem?_eq_none (l := cs) (by omega)).symm
    | _ => simp [World.cell?, hg] at h0
instance : Inhabited Qt := ⟨⟨0, false, []⟩⟩
def qtCells (q : Qt) : List Value := qCells q.id q.wide q.tab
def QtOk (q : Qt) : Prop := q.tab.length = 64 ∧ (0 ≤ q.id ∧ q.id ≤ 255) ∧ ∀ x ∈ q.tab, 0 ≤ x ∧ x ≤ 65535
/-- What is written of the first tables. -/
def wrQs (l : List Qt) : List Int := l.flatMap wrQuant
theorem wrQuants_eq : ∀ (l : List Qt), wrQuants l = if l.any qBad = true then .error 153 else .ok (wrQs l)
  | [] => rfl
  | q :: l => by
    rw [wrQuants, wrQuants_eq l]
    by_cases h : qBad q = true
    · rw [if_pos h, if_pos (by simp [h])]
    · rw [if_neg h]
      by_cases h2 : l.any qBad = true
      · rw [if_pos h2, if_pos (by simp [h2])]; rfl
      · rw [if_neg h2, if_neg (by simp only [List.any_cons]; simp [h, h2])]
        simp [wrQs, Except.map]
theorem tabS_append (wide : Bool) : ∀ (l m : List Int), tabS wide (l ++ m) = tabS wide l ++ tabS wide m
  | [], m => rfl
  | x :: l, m => by
    simp only [List.cons_append, tabS, tabS_append wide l m]
    split <;> simp
theorem tabS_len (wide : Bool) : ∀ (l : List Int), (tabS wide l).length ≤ 2 * l.length
  | [] => by simp [tabS]
  | x :: l => by
    have := tabS_len wide l
    simp only [tabS]
    split <;> simp [twoS] <;> omega
theorem tabS_succ (wide : Bool) (l : List Int) (k : Nat) (h : k < l.length) : tabS wide (l.take (k + 1)) = tabS wide (l.take k) ++ (if wide = true then twoS (l.getD k 0) else [l.getD k 0 % 256]) := by
  rw [List.take_succ_eq_append_getElem h, tabS_append]
  congr 1
  simp only [tabS, List.append_nil]
  have : l.getD k 0 = l[k] := by simp [h]
  rw [this]
theorem wrQuant_len (q : Qt) (h : q.tab.length = 64) : (wrQuant q).length ≤ 129 := by
  have := tabS_len q.wide q.tab
  simp [wrQuant]; omega
theorem wrQs_len : ∀ (l : List Qt), (∀ q ∈ l, QtOk q) → (wrQs l).length ≤ 129 * l.length
  | [], _ => by simp [wrQs]
  | q :: l, h => by
    have h1 := wrQuant_len q (h q (by simp)).1
    have h2 := wrQs_len l (fun x hx => h x (by simp [hx]))
    simp only [wrQs, List.flatMap_cons, List.length_append, List.length_cons] at *
    omega
theorem wrQs_succ (l : List Qt) (k : Nat) (h : k < l.length) : wrQs (l.take (k + 1)) = wrQs (l.take k) ++ wrQuant (l.getD k default) := by
  rw [List.take_succ_eq_append_getElem h]
  have : l.getD k default = l[k] := by simp [h]
  rw [this, wrQs, List.flatMap_append]
  simp [wrQs]
theorem qt_read {w : World} {b off : Nat} {l : List Qt} (ho : ∀ q ∈ l, QtOk q) (hc : ∀ j u, (l.flatMap qtCells)[j]? = some u → w.cell? ⟨b, off + j, none⟩ = some u) (k : Nat) (hk : k < l.length) :
    rdRow w b (off + k * 66) 66 = some (qtCells (l.getD k default)) := by
  have hlen : (qtCells (l.getD k default)).length = 66 := qCells_len (ho _ (mem_getD l k hk)).1
  refine rdRow_of_cells hlen (by omega) fun j u hj => ?_
  have key : ∀ (l : List Qt), (∀ q ∈ l, QtOk q) → ∀ (k : Nat), k < l.length → ∀ (j : Nat) (u : Value), (qtCells (l.getD k default))[j]? = some u → (l.flatMap qtCells)[k * 66 + j]? = some u := by
    intro l
    induction l with
    | nil => intro _ k hk; simp at hk
    | cons q l ih =>
      intro ho k hk j u hj
      have hq : (qtCells q).length = 66 := qCells_len (ho q (by simp)).1
      cases k with
      | zero =>
        have hj' : j < (qtCells q).length := by
          by_cases h : j < (qtCells q).length
          · exact h
          · rw [List.getElem?_eq_none (by simpa using h)] at hj; cases hj
        rw [List.flatMap_cons, List.getElem?_append_left (by omega)]
        simpa using hj
      | succ k =>
        have := ih (fun x hx => ho x (by simp [hx])) k (by simpa using hk) j u (by simpa using hj)
        rw [List.flatMap_cons, List.getElem?_append_right (by omega), hq, ← this]
        congr 1
        omega
  have := hc _ u (key l ho k hk j u hj)
  rwa [← Nat.add_assoc] at this
theorem qAny_bad (l : List Qt) (k : Nat) (h : k < l.length) (hb : qBad (l.getD k default) = true) : l.any qBad = true := by
  rw [List.any_eq_true]
  exact ⟨_, mem_getD l k h, hb⟩
theorem qAny_ok (l : List Qt) (k : Nat) (h : k < l.length) (h0 : (l.take k).any qBad = false) (hb : qBad (l.getD k default) = false) : (l.take (k + 1)).any qBad = false := by
  rw [List.take_succ_eq_append_getElem h, List.any_append, h0]
  simp [h] at hb
  simp [hb]
theorem ty_tab : AggTy Tryd.prog 75 64 := by show aggOk _ _ _ = true; kernel_rfl
theorem t_load : type_of% (@ex_load Tryd.prog 75 64 ty_tab) := @ex_load Tryd.prog 75 64 ty_tab
theorem agg_u16 (w : World) : (isAgg 74).run Tryd.prog w = .ok false w := by kernel_rfl
theorem size_u16 (w : World) : (sizeOf 74).run Tryd.prog w = .ok 1 w := by kernel_rfl
theorem or16_dec : ∀ x : Fin 4, bits .or .u8 16 (x.val : Int) = ((16 + x.val : Nat) : Int) := by decide +kernel
theorem or16 (x : Int) (hx : 0 ≤ x) (hx2 : x ≤ 3) : bits .or .u8 16 x = 16 + x := by
  obtain ⟨x, rfl⟩ := Int.eq_ofNat_of_zero_le hx
  have h := or16_dec ⟨x, by omega⟩
  simp only [Int.natCast_add] at h
  exact h

set_option maxHeartbeats 2000000 in
set_option maxRecDepth 100000 in
attribute [local go_sem ↓] b_append q_load q_store t_load in
theorem written_dqt (w : World) (B : Nat) (a ed kd wd ht rs : Int) (hv fv pv iv : Value) (ds : ByteArray) (l : List Qt) (qA : Option Addr) (qc : Nat)
    (hrd : Rd w B 66 qA l.length (l.flatMap qtCells)) (hB : B ≤ w.heap.size) (hql : l.length ≤ qc) (hqm : qc ≤ maxLen) (ho : ∀ q ∈ l, QtOk q) (hn : l.length ≤ 1100000) :
    Calls Tryd.prog 42 #[.agg #[.int .u8 219, .int .i64 a, .int .i64 ed, .slice qA l.length qc, hv, .int .u8 kd, .int .i64 wd, .int .i64 ht, fv, pv, iv, .int .i64 rs, .string ds]] w fun e w' =>
      WrPost w (wrQuants l) e w' := by
  have HRD := Lib.hid hrd
  have HO := Lib.hid ho
  unfold maxLen at hqm
  obtain ⟨R, hR⟩ : ∃ R, R = wrQuants l := ⟨_, rfl⟩
  have HE : Hid (R = if l.any qBad = true then .error 153 else .ok (wrQs l)) := by rw [hR, wrQuants_eq]; exact Lib.hid rfl
  rw [← hR]
  clear hR hrd ho
  obtain ⟨m, hm⟩ : ∃ m, m = l.length := ⟨_, rfl⟩
  have HM := Lib.hid hm
  rw [← hm] at hql hn ⊢
  clear hm
  obtain ⟨w1, hw1⟩ : ∃ w1, w1 = w.alloc (.cells #[.int .u8 219, .int .i64 a, .int .i64 ed, .slice qA m qc, hv, .int .u8 kd, .int .i64 wd, .int .i64 ht, fv, pv, iv, .int .i64 rs, .string ds] 30) := ⟨_, rfl⟩
  have hk1 : Kp Nn w w1 := by rw [hw1]; exact (Kp.refl _ _).alloc _
  have HW1 := Lib.hid hw1
  clear hw1
  go_enter Tryd.func42, Tryd.ntmps42
  go_wp2
  rw [← HW1.out]
  go_loopw [4, 29] (fun v i wr => ∃ (k : Nat), k ≤ m ∧ i = .int .i64 k ∧ By wr (w.heap.size + 1) v (wrQs (l.take k)) ∧ Kp Nn w wr ∧ w.heap.size < wr.heap.size ∧ Hid ((l.take k).any qBad = false)) (fun _ i _ => m - (intOf i).toNat)
  case atStart => exact ⟨0, by omega, rfl, By.nil _ _, hk1, by rw [HW1.out]; simp, rfl⟩
  case round =>
    obtain ⟨k, hk, rfl, hby, hkp, hsz, hall⟩ := hrel
    obtain ⟨wo, rfl⟩ : ∃ wo : World, wo = wr := ⟨_, rfl⟩
    have HY := Lib.hid hby
    clear hby
    by_cases hlt : k < m
    · have hkl : k < l.length := by rw [← HM.out]; exact hlt
      obtain ⟨b, off, rfl, hb, hc⟩ := HRD.out.at_ (by omega)
      have hrow := qt_read HO.out hc k hkl
      have hrow2 := rdRow_kp hkp hrow (fun h => h)
      have hok := HO.out _ (mem_getD l k hkl)
      have hlen := wrQs_len (l.take k) (fun q hq => HO.out q (List.mem_of_mem_take hq))
      have hlen2 : (l.take k).length ≤ 1100000 := by simp; omega
      have hl3 : (wrQs (l.take k)).length ≤ 150000000 := by omega
      clear hlen hlen2
      obtain ⟨q, hq⟩ : ∃ q, q = l.getD k default := ⟨_, rfl⟩
      rw [← hq] at hrow2 hok
      have HQ := Lib.hid hq
      clear hq
      obtain ⟨id, wide, tab⟩ := q
      obtain ⟨htl, ⟨hid0, hid1⟩, hrg⟩ := hok
      simp only at htl hid0 hid1 hrg
      have HRG := Lib.hid hrg
      have HTL := Lib.hid htl
      clear hrow hc hrg
      have hq0 : rdRow wo b (off + k * 66) 66 = some (qCells id wide tab) := hrow2
      have hst : okSt (wo.alloc (.cells Tryd.zeroCells103 103)) wo.heap.size 0 66 (qCells id wide tab).toArray = true :=
        okSt_new _ _ _ _ _ zc103_size (by simp [qCells_len htl]) (by simpa using qCells_one id wide tab)
      have hwr : wrRow (wo.alloc (.cells Tryd.zeroCells103 103)) wo.heap.size 0 (qCells id wide tab) = wo.alloc (.cells (qCells id wide tab).toArray 103) :=
        wrRow_new _ _ _ _ _ rfl (by rw [zc103_size, qCells_len htl])
      have hq_0 : (qCells id wide tab)[0]? = some (.int .u8 id) := rfl
      have hq_1 : (qCells id wide tab)[1]? = some (.bool wide) := rfl
      clear hrow2
      by_cases hid3 : 3 < id
      · have HE2 : Hid (R = .error 153) := by
          rw [HE.out, if_pos (qAny_bad l k hkl (by rw [← HQ.out]; simp [qBad, hid3]))]; exact Lib.hid rfl
        clear htl
        go_wp2
        go_ret2
        rw [HE2.out]
        exact ⟨rfl, hkp.alloc _⟩
      obtain ⟨w2, hw2⟩ : ∃ w2, w2 = wo.alloc (.cells (qCells id wide tab).toArray 103) := ⟨_, rfl⟩
      have hb2 : Blk w2 wo.heap.size 103 (qCells id wide tab).toArray := by rw [hw2]; exact Blk.new _ _ _
      have hk2 : Kp Nn w w2 := by rw [hw2]; exact hkp.alloc _
      have hy2 : By w2 (w.heap.size + 1) u4 (wrQs (l.take k)) := by rw [hw2]; exact HY.out.alloc _
      have hsz2 : w.heap.size < w2.heap.size := by have := hb2.lt; omega
      have hce : ∀ i, i < 64 → w2.cell? ⟨wo.heap.size, 2 + i, none⟩ = some (.int .u16 (tab.getD i 0)) := fun i hi => by
        rw [hb2.cell, qCells_at _ _ _ _ (by omega)]
      have HCK := Lib.hid (quantCheck_c w2 wo.heap.size 2 tab htl hce wide)
      have n2 : u4.ownBlock ≠ some wo.heap.size := fun h => by have := (HY.out.lt _ h).2; omega
      have HW2 := Lib.hid hw2
      have HB2 := Lib.hid hb2
      have HY2 := Lib.hid hy2
      clear hw2 hb2 hy2 hce htl
      go_wp2_with fail
      rw [← HW2.out]
      refine HCK.out.mono ?_
      rintro e w3 ⟨rfl, rfl⟩
      clear HCK hq0 hst hwr hq_0 hq_1
      have hc0 : w2.cell? ⟨wo.heap.size, 0, none⟩ = some (.int .u8 id) := by rw [HB2.out.cell]; rfl
      have hc1 : w2.cell? ⟨wo.heap.size, 1, none⟩ = some (.bool wide) := by rw [HB2.out.cell]; rfl
      by_cases hqc : qcheck wide tab 0 = 0
      case neg =>
        have hb1 : (qcheck wide tab 0 != 0) = true := by simpa using hqc
        have HE2 : Hid (R = .error 153) := by
          rw [HE.out, if_pos (qAny_bad l k hkl (by rw [← HQ.out]; simp [qBad, hqc]))]; exact Lib.hid rfl
        clear hqc
        go_wp2
        go_ret2
        rw [HE2.out]
        exact ⟨rfl, hk2⟩
      have hb1 : (qcheck wide tab 0 != 0) = false := by simpa using hqc
      have hall2 : Hid ((l.take (k + 1)).any qBad = false) := qAny_ok l k hkl hall.out (by rw [← HQ.out]; simp [qBad, hqc]; omega)
      clear hqc
      cases wide with
      | false =>
        obtain ⟨ap1, g1, cap1, w4, ap2, ap3, hby4, hk4, hat, hlt4⟩ := by_new w2 (w.heap.size + 1) _ _ HY2.out [id] (by simp) (by simp; omega) (by omega)
        simp [u8s] at ap1 ap2 ap3
        have hb4 := HB2.out.kp hk4 n2
        have hk5 : Kp Nn w w4 := Kp.comp hk2 hk4 (by
          intro i hi h
          rcases h with h | h
          · exact h
          · have := (HY2.out.lt _ h).1; omega)
        have hrt : rdRow w4 wo.heap.size 2 64 = some (u16s tab) := by
          rw [hb4.rd 2 64 (by simp [qCells_len HTL.out])]
          simp only [qCells, List.drop_succ_cons, List.drop_zero]
          rw [List.take_of_length_le (by simp [u16s, HTL.out])]
        have HY4 := Lib.hid hby4
        have hsz4 : w.heap.size < w4.heap.size := by have := hk4.size; omega
        clear hby4 hb4 hat
        have hidx : ∀ (j : Nat), j < 64 → ∀ w, (Instr.index 75 (.agg (u16s tab).toArray) (.int .i64 (j : Int))).run Tryd.prog w = .ok (.int .u16 (tab.getD j 0)) w := fun j hj w =>
          run_index_agg Tryd.underlying75 agg_u16 size_u16 _ _ _ hj _ (by simp [u16s, HTL.out, hj]) w
        have HI := Lib.hid hidx
        clear hidx
        go_wp2
        clear ap1 ap2 ap3 hrt hc0 hc1
        go_loopw [4, 53] (fun v i wi => ∃ (j : Nat), j ≤ 64 ∧ i = .int .i64 j ∧ By wi (w.heap.size + 1) v (wrQs (l.take k) ++ id :: tabS false (tab.take j)) ∧ Kp Nn w wi ∧ w.heap.size < wi.heap.size) (fun _ i _ => 64 - (intOf i).toNat)
        case atStart => exact ⟨0, by omega, rfl, HY4.out, hk5, hsz4⟩
        case round =>
          obtain ⟨j, hj, rfl, hyj, hkj, hszj⟩ := hrel
          have HYJ := Lib.hid hyj
          clear hyj
          by_cases hj1 : j < 64
          · have hi := HI.out j hj1
            have hjl : j < tab.length := by rw [HTL.out]; exact hj1
            have hxr := HRG.out (tab.getD j 0) (by rw [List.getD_eq_getElem?_getD, List.getElem?_eq_getElem hjl]; exact List.getElem_mem hjl)
            have hlen := tabS_len false (tab.take j)
            have hlen2 : (tab.take j).length ≤ 64 := by simp; omega
            have hsu := tabS_succ false tab j hjl
            have HSU := Lib.hid hsu
            clear hsu
            generalize tab.getD j 0 = x at *
            obtain ⟨x0, x1⟩ := hxr
            have hwx : IntKind.u8.wrap x = x % 256 := wrap_u8 x
            obtain ⟨ap1, g2, cap2, w6, ap2, ap3, hby6, hk6, hat6, hlt6⟩ := by_new wr (w.heap.size + 1) _ _ HYJ.out [x % 256] (by simp) (by simp; omega) (by omega)
            simp [u8s] at ap1 ap2 ap3
            have HY6 := Lib.hid hby6
            clear hby6 hlen hlen2 hat6
            go_wp2
            go_roundw
            case rel =>
              refine ⟨j + 1, by omega, by go_num, ?_, ?_, by have := hk6.size; omega⟩
              · have h := HY6.out
                rw [HSU.out]
                simpa using h
              · exact Kp.comp hkj hk6 (by
                  intro i hi h
                  rcases h with h | h
                  · exact h
                  · have := (HYJ.out.lt _ h).1; omega)
            case measure => simp [intOf]; omega
          · have hj64 : j = 64 := by omega
            have hy7 := HYJ.out
            have htk : tab.take j = tab := List.take_of_length_le (by rw [HTL.out]; omega)
            rw [htk] at hy7
            have HY7 := Lib.hid hy7
            clear hy7 HYJ hj64
            go_wp2
            go_roundw
            case rel =>
              refine ⟨k + 1, by omega, by go_num, ?_, hkj, hszj, hall2⟩
              rw [wrQs_succ l k hkl, ← HQ.out]
              exact HY7.out
            case measure => simp [intOf]; omega
      | true =>
        obtain ⟨z, hz, o1⟩ : ∃ z, z = 16 + id ∧ bits .or .u8 16 id = z := ⟨_, rfl, or16 id hid0 hid3⟩
        have HZ := Lib.hid hz
        clear hz
        obtain ⟨ap1, g1, cap1, w4, ap2, ap3, hby4, hk4, hat, hlt4⟩ := by_new w2 (w.heap.size + 1) _ _ HY2.out [z] (by simp) (by simp; omega) (by omega)
        simp [u8s] at ap1 ap2 ap3
        have hb4 := HB2.out.kp hk4 n2
        have hk5 : Kp Nn w w4 := Kp.comp hk2 hk4 (by
          intro i hi h
          rcases h with h | h
          · exact h
          · have := (HY2.out.lt _ h).1; omega)
        have hrt : rdRow w4 wo.heap.size 2 64 = some (u16s tab) := by
          rw [hb4.rd 2 64 (by simp [qCells_len HTL.out])]
          simp only [qCells, List.drop_succ_cons, List.drop_zero]
          rw [List.take_of_length_le (by simp [u16s, HTL.out])]
        have HY4 := Lib.hid hby4
        have hsz4 : w.heap.size < w4.heap.size := by have := hk4.size; omega
        clear hby4 hb4 hat
        have hidx : ∀ (j : Nat), j < 64 → ∀ w, (Instr.index 75 (.agg (u16s tab).toArray) (.int .i64 (j : Int))).run Tryd.prog w = .ok (.int .u16 (tab.getD j 0)) w := fun j hj w =>
          run_index_agg Tryd.underlying75 agg_u16 size_u16 _ _ _ hj _ (by simp [u16s, HTL.out, hj]) w
        have HI := Lib.hid hidx
        clear hidx
        go_wp2
        clear ap1 ap2 ap3 hrt hc0 hc1
        go_loopw [4, 70] (fun v i wi => ∃ (j : Nat), j ≤ 64 ∧ i = .int .i64 j ∧ By wi (w.heap.size + 1) v (wrQs (l.take k) ++ z :: tabS true (tab.take j)) ∧ Kp Nn w wi ∧ w.heap.size < wi.heap.size) (fun _ i _ => 64 - (intOf i).toNat)
        case atStart => exact ⟨0, by omega, rfl, HY4.out, hk5, hsz4⟩
        case round =>
          obtain ⟨j, hj, rfl, hyj, hkj, hszj⟩ := hrel
          have HYJ := Lib.hid hyj
          clear hyj
          by_cases hj1 : j < 64
          · have hi := HI.out j hj1
            have hjl : j < tab.length := by rw [HTL.out]; exact hj1
            have hxr := HRG.out (tab.getD j 0) (by rw [List.getD_eq_getElem?_getD, List.getElem?_eq_getElem hjl]; exact List.getElem_mem hjl)
            have hlen := tabS_len true (tab.take j)
            have hlen2 : (tab.take j).length ≤ 64 := by simp; omega
            have hsu := tabS_succ true tab j hjl
            have HSU := Lib.hid hsu
            clear hsu
            generalize tab.getD j 0 = x at *
            obtain ⟨x0, x1⟩ := hxr
            have hwx : 0 ≤ x := x0
            go_wp2_with fail
            refine (two_c wr (w.heap.size + 1) _ _ x x0 (by omega) HYJ.out (by simp; omega) (by omega)).mono ?_
            rintro e w6 ⟨g2, cap2, rfl, hby6, hk6, hat6⟩
            have HY6 := Lib.hid hby6
            clear hby6 hlen hlen2 hat6
            go_wp2
            go_roundw
            case rel =>
              refine ⟨j + 1, by omega, by go_num, ?_, ?_, by have := hk6.size; omega⟩
              · have h := HY6.out
                rw [HSU.out]
                simpa using h
              · exact Kp.comp hkj hk6 (by
                  intro i hi h
                  rcases h with h | h
                  · exact h
                  · have := (HYJ.out.lt _ h).1; omega)
            case measure => simp [intOf]; omega
          · have hj64 : j = 64 := by omega
            have hy7 := HYJ.out
            have htk : tab.take j = tab := List.take_of_length_le (by rw [HTL.out]; omega)
            rw [htk] at hy7
            have HY7 := Lib.hid hy7
            clear hy7 HYJ hj64
            go_wp2
            go_roundw
            case rel =>
              refine ⟨k + 1, by omega, by go_num, ?_, hkj, hszj, hall2⟩
              rw [wrQs_succ l k hkl, ← HQ.out, wrQuant, if_pos rfl, ← HZ.out]
              exact HY7.out
            case measure => simp [intOf]; omega
    · have hkm : k = m := by omega
      subst hkm
      have HE2 : Hid (R = .ok (wrQs l)) := by
        have h := hall.out
        rw [List.take_of_length_le (by have := HM.out; omega)] at h
        rw [HE.out, if_neg (by simp [h])]; exact Lib.hid rfl
      have hy2 := HY.out
      rw [List.take_of_length_le (by have := HM.out; omega)] at hy2
      have HY2 := Lib.hid hy2
      clear hy2 hlt
      go_wp2
      go_ret2
      rw [HE2.out]
      exact WrPost.by_ HY2.out hkp
end Go.Proofs.YtnpkpikoeijdcaaDoor
