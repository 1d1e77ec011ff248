/- Contracts: segment.New, Restart, Take of an interval and of a comment, Extras. -/
import Derived.Test.YtnpkpikoeijdcaaDoorDj
set_option linter.unusedVariables false
set_option linter.unusedSimpArgs false
namespace Go.Proofs.YtnpkpikoeijdcaaDoor
open Go Go.RowKit

set_option maxHeartbeats 1000000 in
set_option maxRecDepth 100000 in
theorem new_c (w : World) : Calls Tryd.prog 19 #[] w fun e w' => e = .returned (.pointer (some ⟨w.heap.size, 0, none⟩)) ∧ w' = w.alloc (.cells Tryd.zeroCells119 119) := by
  go_enter Tryd.func19, Tryd.ntmps19
  go_wp2
  go_ret
  exact ⟨rfl, rfl⟩
set_option maxHeartbeats 1000000 in
set_option maxRecDepth 100000 in
theorem restart_c (w : World) (g : Nat) (st : Array Value) (v : Int) (hb : Blk w g 119 st) (h : st[409]? = some (.int .i64 v)) : Calls Tryd.prog 31 #[.pointer (some ⟨g, 0, none⟩)] w fun e w' => e = .returned (.int .i64 v) ∧ w' = w := by
  have c1 : w.cell? ⟨g, 409, none⟩ = some (.int .i64 v) := by rw [hb.cell]; exact h
  go_enter Tryd.func31, Tryd.ntmps31
  go_wp2
  go_ret
  exact ⟨rfl, rfl⟩
set_option maxHeartbeats 4000000 in
set_option maxRecDepth 100000 in
attribute [local go_sem ↓] sg_load in
theorem take_dri (w : World) (s : Sg) (cs : Array Value) (g : Nat) (st : Array Value) (l : List Int) (v : Value) (hs : SgR w s cs) (ho : SgOk s) (hc : s.code = 221) (htx : textS s = .ok l)
    (hb : Blk w g 119 st) (hv : st[409]? = some v) :
    Calls Tryd.prog 22 #[.pointer (some ⟨g, 0, none⟩), .agg cs] w fun e w' => e = .returned (.int .i64 0) ∧ Kp (fun i => i = g) w w' ∧ Blk w' g 119 (st.setIfInBounds 409 (.int .i64 s.restart)) := by
  have hsz := hs.size
  obtain ⟨h0, h11⟩ : cs[0]? = some (.int .u8 221) ∧ cs[11]? = some (.int .i64 s.restart) := by
    obtain ⟨_, _, _, _, _, _, _, _, _, _, _, _, rfl, _⟩ := hs
    rw [hc]
    exact ⟨rfl, rfl⟩
  have ht := fun w1 hk => text_c w1 s cs (hs.kp (w' := w1) hk) ho
  rw [htx] at ht
  have HT := Lib.hid ht
  generalize s.restart = rs at *
  obtain ⟨w1, hw1⟩ : ∃ w1, w1 = w.alloc (.cells cs 30) := ⟨_, rfl⟩
  have hb1 : Blk w1 w.heap.size 30 cs := by rw [hw1]; exact Blk.new _ _ _
  have hk1 : Kp Nn w w1 := by rw [hw1]; exact (Kp.refl _ _).alloc _
  have hr1 : rdRow w1 w.heap.size 0 13 = some cs.toList := hb1.rdAll (cs := cs.toList) (by simpa using hsz)
  have hr1' := hr1
  rw [hw1] at hr1'
  have HW1 := Lib.hid hw1
  clear ht hs ho htx hc hr1 hw1
  go_enter Tryd.func22, Tryd.ntmps22
  go_wp2_with fail
  rw [← HW1.out]
  refine (HT.out w1 hk1).mono ?_
  rintro e w2 ⟨rfl, hk2⟩
  have c0 : w2.cell? ⟨w.heap.size, 0, none⟩ = some (.int .u8 221) := hk2.cell' (by rw [hb1.cell]; exact h0) (fun h => h)
  have c11 : w2.cell? ⟨w.heap.size, 11, none⟩ = some (.int .i64 rs) := hk2.cell' (by rw [hb1.cell]; exact h11) (fun h => h)
  have hkw := hk1.trans hk2
  have hb2 := hb.kp hkw (fun h => h)
  have cv : w2.cell? ⟨g, 409, none⟩ = some v := by rw [hb2.cell]; exact hv
  have cf := hb2.frozen 409
  clear hb1 hk1 hk2 hr1' h0 h11 HT HW1
  have hfin : Kp (fun i => i = g) w (w2.setCell ⟨g, 409, none⟩ (.int .i64 rs)) ∧ Blk (w2.setCell ⟨g, 409, none⟩ (.int .i64 rs)) g 119 (st.setIfInBounds 409 (.int .i64 rs)) :=
    ⟨Kp.setCell (S := fun i => i = g) (p := ⟨g, 409, none⟩) (hkw.mono (fun i _ h => absurd h (fun h => h))) (.inl rfl) _, hb2.set_ _ _⟩
  have HF := Lib.hid hfin
  clear hfin
  go_wp2
  go_ret
  exact ⟨rfl, HF.out⟩

theorem extra_info0 : (Tryd.prog.info? 86).map (fun i => (i.zero, i.size, i.bytes)) = some (some (.agg #[.int .u8 0, .string ⟨#[]⟩]), 2, 24) := by kernel_rfl
theorem extra_info : ∃ i0, Tryd.prog.info? 86 = some i0 ∧ i0.zero = some (.agg #[.int .u8 0, .string ⟨#[]⟩]) ∧ i0.size = 2 ∧ i0.bytes = 24 := info_parts extra_info0
theorem e_append : type_of% (@ex_append Tryd.prog 82) := @ex_append Tryd.prog 82
set_option maxHeartbeats 4000000 in
set_option maxRecDepth 100000 in
attribute [local go_sem ↓] sg_load e_append in
theorem take_com (w : World) (s : Sg) (cs : Array Value) (g : Nat) (st : Array Value) (l : List Int) (hs : SgR w s cs) (ho : SgOk s) (hc : s.code = 254) (htx : textS s = .ok l)
    (hb : Blk w g 119 st) (hv : st[558]? = some (.slice none 0 0)) :
    Calls Tryd.prog 22 #[.pointer (some ⟨g, 0, none⟩), .agg cs] w fun e w' => e = .returned (.int .i64 0) ∧ Kp (fun i => i = g) w w' ∧
      ∃ v' ds, bl ds = s.data ∧ Blk w' g 119 (st.setIfInBounds 558 v') ∧ w'.ownsRow w.heap.size 86 2 v' 1 [.int .u8 254, .string ds] := by
  have hsz := hs.size
  obtain ⟨ds, hds, h0, h12⟩ : ∃ ds, bl ds = s.data ∧ cs[0]? = some (.int .u8 254) ∧ cs[12]? = some (.string ds) := by
    obtain ⟨_, _, _, _, _, _, _, _, _, _, _, ds, rfl, h, _⟩ := hs
    rw [hc]
    exact ⟨ds, h, rfl, rfl⟩
  have ht := fun w1 hk => text_c w1 s cs (hs.kp (w' := w1) hk) ho
  rw [htx] at ht
  have HT := Lib.hid ht
  have HDS := Lib.hid hds
  obtain ⟨w1, hw1⟩ : ∃ w1, w1 = w.alloc (.cells cs 30) := ⟨_, rfl⟩
  have hb1 : Blk w1 w.heap.size 30 cs := by rw [hw1]; exact Blk.new _ _ _
  have hk1 : Kp Nn w w1 := by rw [hw1]; exact (Kp.refl _ _).alloc _
  have hr1 : rdRow w1 w.heap.size 0 13 = some cs.toList := hb1.rdAll (cs := cs.toList) (by simpa using hsz)
  have hr1' := hr1
  rw [hw1] at hr1'
  have HW1 := Lib.hid hw1
  clear ht hs ho htx hc hr1 hw1 hds
  go_enter Tryd.func22, Tryd.ntmps22
  go_wp2_with fail
  rw [← HW1.out]
  refine (HT.out w1 hk1).mono ?_
  rintro e w2 ⟨rfl, hk2⟩
  have c0 : w2.cell? ⟨w.heap.size, 0, none⟩ = some (.int .u8 254) := hk2.cell' (by rw [hb1.cell]; exact h0) (fun h => h)
  have c12 : w2.cell? ⟨w.heap.size, 12, none⟩ = some (.string ds) := hk2.cell' (by rw [hb1.cell]; exact h12) (fun h => h)
  have hkw := hk1.trans hk2
  have hb2 := hb.kp hkw (fun h => h)
  have hsz2 := hkw.size
  have cv : w2.cell? ⟨g, 558, none⟩ = some (.slice none 0 0) := by rw [hb2.cell]; exact hv
  have hb0 := hb
  clear hb1 hk1 hk2 hr1' h0 h12 HT HW1 hb hv
  obtain ⟨i0, hi0, hz0, hz1, hz2⟩ := extra_info
  obtain ⟨ap1, gg, cap, w4, ap2, ap3, hown, hk4, _, _⟩ := ap_one (P := Tryd.prog) w2 82 w.heap.size 86 i0 _ 2 24 Tryd.underlying82 hi0 hz0 hz1 hz2 (by rfl) (by omega) (.slice none 0 0) 0 [] (World.ownsRow_nil _ _ _ _)
    #[.int .u8 254, .string ds] rfl (by simp [Value.oneCell']) (by simp [maxLen]) (by omega) hsz2
  simp at ap2
  have hk4' : Kp Nn w2 w4 := hk4.mono (fun i _ h => by simp [Value.ownBlock] at h)
  have hb4 := hb2.kp hk4' (fun h => h)
  have cv4 : w4.cell? ⟨g, 558, none⟩ = some (.slice none 0 0) := hk4'.cell' cv (fun h => h)
  have cf4 := hb4.frozen 558
  have hkw4 := hkw.trans hk4'
  obtain ⟨v', hv'⟩ : ∃ v', v' = Value.slice (some ⟨gg, 0, none⟩) 1 cap := ⟨_, rfl⟩
  have hown' : w4.ownsRow w.heap.size 86 2 v' 1 [.int .u8 254, .string ds] := by rw [hv']; simpa using hown
  have hgl := hb2.lt
  have hfin : ∀ wf, wf = w4.setCell ⟨g, 558, none⟩ v' → Kp (fun i => i = g) w wf ∧ ∃ v' ds, bl ds = s.data ∧ Blk wf g 119 (st.setIfInBounds 558 v') ∧ wf.ownsRow w.heap.size 86 2 v' 1 [.int .u8 254, .string ds] := by
    rintro wf rfl
    have hg0 : g < w.heap.size := hb0.lt
    have hk9 : Kp (fun i => i = g) w4 (w4.setCell ⟨g, 558, none⟩ v') := Kp.setCell (S := fun i => i = g) (p := ⟨g, 558, none⟩) (Kp.refl _ _) (.inl rfl) _
    refine ⟨(hkw4.mono (fun i _ h => absurd h (fun h => h))).trans hk9, v', ds, HDS.out, hb4.set_ _ _, own_kp hown' hk9 (fun g' hg' h => by have := (hown'.lt _ hg').1; omega)⟩
  subst hv'
  have HF := Lib.hid hfin
  clear hb0 hfin hown hown' hk4 hb4 hkw4 hz0 hz1 hz2 hi0
  go_wp2_with fail
  refine wp_region_lex (fun w' => Kp (Nn) w2 w') 10 (by kernel_rfl) (by kernel_rfl) ((Kp.refl _ _).drew) ?_
  simp only [List.take_succ_cons, List.take_zero, List.drop_succ_cons, List.drop_zero]
  intro hsn hsx N hN
  have fx0 := fun x => (hsx x).cell' cv (fun h => h)
  have fx1 := fun x => (hsx x).cell' c0 (fun h => h)
  have fx2 := fun x => (hsx x).cell' c12 (fun h => h)
  clear hsx
  repeat (go_big_quiet_step (fail))
  refine wpQuiet_nil (hN _ ?_)
  clear hN N hsn fx0 fx1 fx2
  refine wpTl_act ?_
  intro N hN
  go_wp2
  refine hN _ _ (((Kp.refl _ _).alloc _).drew) ?_
  clear hN N
  refine wpTl_act ?_
  intro N hN
  go_wp2
  refine hN _ _ (hk4') ?_
  clear hN N
  refine wpTl_act ?_
  intro N hN
  go_wp2
  refine hN _ _ (hk4') ?_
  clear hN N
  refine wpTl_act ?_
  intro N hN
  go_wp2
  refine hN _ _ (hk4') ?_
  clear hN N
  refine wpTl_last ?_
  intro N hN
  go_wp2
  go_ret
  exact ⟨rfl, HF.out _ rfl⟩
end Go.Proofs.YtnpkpikoeijdcaaDoor
