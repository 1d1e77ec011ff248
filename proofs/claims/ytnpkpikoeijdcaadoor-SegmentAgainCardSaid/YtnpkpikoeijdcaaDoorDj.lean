/- Contract: segment.Text. -/
import Derived.Test.YtnpkpikoeijdcaaDoorDi
import Derived.Test.YtnpkpikoeijdcaaDoorCj
set_option linter.unusedVariables false
set_option linter.unusedSimpArgs false
namespace Go.Proofs.YtnpkpikoeijdcaaDoor
open Go Go.RowKit

def TextPost (w : World) (r : Except Int (List Int)) (e : Ending) (w' : World) : Prop :=
  match r with
  | .error er => e = .returned (.tuple #[.string ⟨#[]⟩, .int .i64 er]) ∧ Kp Nn w w'
  | .ok l => e = .returned (.tuple #[.string (stOf l), .int .i64 0]) ∧ Kp Nn w w'
theorem stOf_append (a b : List Int) : stOf (a ++ b) = stOf a ++ stOf b := by
  simp only [stOf, List.map_append]
  apply ByteArray.ext
  simp
theorem byte_info2 : ∃ i0, Tryd.prog.info? 5 = some i0 := by
  obtain ⟨i0, h, _⟩ := byte_info
  exact ⟨i0, h⟩
theorem wrData_err {s : Sg} {er : Int} (h : wrData s = .error er) : er ≠ 0 := by
  unfold wrData at h
  split at h
  · rw [wrQuants_eq] at h
    split at h
    · injection h with h; omega
    · cases h
  split at h
  · rw [wrHuffs_eq] at h
    split at h
    · injection h with h; omega
    · cases h
  split at h
  · unfold wrFrame at h
    split at h
    · injection h with h; rw [← h]; assumption
    · cases h
  split at h
  · split at h
    · injection h with h; omega
    · cases h
  split at h
  · unfold wrScan at h
    split at h
    · injection h with h; omega
    split at h
    · injection h with h; omega
    · cases h
  · cases h
/-- A literal of bytes, just laid. -/
theorem By.lit (w : World) (l : List Int) (hl : l.length ≤ maxLen) : By (w.alloc (.cells (u8s l).toArray 5)) w.heap.size (.slice (some ⟨w.heap.size, 0, none⟩) l.length l.length) l := by
  unfold By
  refine ⟨by simp [u8s], .inr ⟨w.heap.size, l.length, (u8s l).toArray, rfl, Nat.le_refl _, Blk.new _ _ _, Nat.le_refl _, hl, by simp [u8s], ?_⟩⟩
  rw [List.take_of_length_le (by simp [u8s])]
theorem s_tostr : type_of% (@ex_tostr Tryd.prog) := @ex_tostr Tryd.prog

set_option maxHeartbeats 4000000 in
set_option maxRecDepth 100000 in
attribute [local go_sem ↓] sg_load s_tostr in
theorem text_c (w : World) (s : Sg) (cs : Array Value) (hs : SgR w s cs) (ho : SgOk s) : Calls Tryd.prog 12 #[.agg cs] w fun e w' => TextPost w (textS s) e w' := by
  have hsz := hs.size
  have h0 : cs[0]? = some (.int .u8 s.code) := by
    obtain ⟨_, _, _, _, _, _, _, _, _, _, _, _, rfl, _⟩ := hs
    rfl
  have hsp : textS s = textS s := rfl
  conv at hsp => rhs; unfold textS
  obtain ⟨R, hR⟩ : ∃ R, R = textS s := ⟨_, rfl⟩
  rw [← hR] at hsp ⊢
  have her := fun er => wrData_err (s := s) (er := er)
  have hwr := fun w1 hk => written_c w1 s cs (hs.kp (w' := w1) hk) ho
  obtain ⟨code, hcode⟩ : ∃ c, c = s.code := ⟨_, rfl⟩
  rw [← hcode] at h0 hsp
  have hrf := fun w1 => refused_c w1 code (by rw [hcode]; exact ho.code.1) (by rw [hcode]; exact ho.code.2)
  generalize wrData s = D at *
  generalize refusedS code = rf at *
  have HW := Lib.hid hwr
  have HRF := Lib.hid hrf
  have HS := Lib.hid hsp
  clear hwr hrf hsp hR hcode ho hs
  obtain ⟨w1, hw1⟩ : ∃ w1, w1 = w.alloc (.cells cs 30) := ⟨_, rfl⟩
  have hb1 : Blk w1 w.heap.size 30 cs := by rw [hw1]; exact Blk.new _ _ _
  have hk1 : Kp Nn w w1 := by rw [hw1]; exact (Kp.refl _ _).alloc _
  have HW1 := Lib.hid hw1
  have c0 : w1.cell? ⟨w.heap.size, 0, none⟩ = some (.int .u8 code) := by rw [hb1.cell]; exact h0
  have hr1 : rdRow w1 w.heap.size 0 13 = some cs.toList := hb1.rdAll (cs := cs.toList) (by simpa using hsz)
  have c0' := c0
  rw [hw1] at c0'
  clear hw1
  go_enter Tryd.func12, Tryd.ntmps12
  go_wp2_with fail
  rw [← HW1.out]
  refine (HRF.out _).mono ?_
  rintro e w2 ⟨rfl, rfl⟩
  clear c0'
  by_cases hrf : rf = 0
  case neg =>
    have hb : (rf != 0) = true := by simpa using hrf
    have HE : Hid (R = .error 151) := by rw [HS.out, if_pos hrf]; exact Lib.hid rfl
    go_wp2
    go_ret2
    rw [HE.out]
    exact ⟨rfl, hk1⟩
  have hb : (rf != 0) = false := by simpa using hrf
  have HS2 := Lib.hid HS.out
  rw [if_neg (by simpa using hrf)] at HS2
  clear HS hrf
  go_wp2_with fail
  refine (HW.out w1 hk1).mono ?_
  rintro e w2 hpost
  clear hr1 hb
  cases D with
  | error er =>
    obtain ⟨rfl, hk2⟩ := hpost
    have hb2 : (er != 0) = true := by simpa using her er rfl
    have HE : Hid (R = .error er) := Lib.hid HS2.out
    clear her HS2
    go_wp2
    go_ret2
    rw [HE.out]
    exact ⟨rfl, hk1.trans hk2⟩
  | ok d =>
    obtain ⟨A, c, rfl, hd1, hd2, hd3, hk2⟩ := hpost
    clear her
    have c2 : w2.cell? ⟨w.heap.size, 0, none⟩ = some (.int .u8 code) := hk2.cell' c0 (fun h => h)
    have hkw2 := hk1.trans hk2
    obtain ⟨n, hn⟩ : ∃ n, n = d.length := ⟨_, rfl⟩
    have HD3 := Lib.hid hd3
    have HE0 : Hid (R = if (code = 219 ∨ code = 196) ∧ n = 0 ∨ 65533 < n then .error 152 else .ok (255 :: code :: (twoS ((n : Int) + 2) ++ d))) := by rw [HS2.out, hn]; exact Lib.hid rfl
    rw [← hn] at hd1 ⊢
    have HN := Lib.hid hn
    clear HS2 hd3 hn hb1 hk1 hk2 c0 h0 HW HRF
    by_cases hbad : (code = 219 ∨ code = 196) ∧ n = 0 ∨ 65533 < n
    · have HE : Hid (R = .error 152) := by rw [HE0.out, if_pos hbad]; exact Lib.hid rfl
      clear HE0
      by_cases hn0 : n = 0
      · have hc : code = 219 ∨ code = 196 := by omega
        subst hn0
        rcases hc with rfl | rfl
        · go_wp2
          go_ret2
          rw [HE.out]
          exact ⟨rfl, hkw2⟩
        · go_wp2
          go_ret2
          rw [HE.out]
          exact ⟨rfl, hkw2⟩
      · have hnn : 65533 < n := by omega
        have e0 : ((n : Int) == 0) = false := by simp; omega
        clear hbad
        by_cases x1 : code = 219
        · subst x1
          go_wp2
          go_ret2
          rw [HE.out]
          exact ⟨rfl, hkw2⟩
        have y1 : (code == 219) = false := by simpa using x1
        by_cases x2 : code = 196
        · subst x2
          go_wp2
          go_ret2
          rw [HE.out]
          exact ⟨rfl, hkw2⟩
        have y2 : (code == 196) = false := by simpa using x2
        clear x1 x2
        go_wp2
        go_ret2
        rw [HE.out]
        exact ⟨rfl, hkw2⟩
    · have HE : Hid (R = .ok (255 :: code :: (twoS ((n : Int) + 2) ++ d))) := by rw [HE0.out, if_neg hbad]; exact Lib.hid rfl
      have hn2 : ¬ 65533 < n := by omega
      have hcn : (code = 219 ∨ code = 196) → n ≠ 0 := by omega
      have h3 : ((code == 219) = true ∧ ((n : Int) == 0) = false) ∨ ((code == 219) = false ∧ (code == 196) = true ∧ ((n : Int) == 0) = false) ∨ ((code == 219) = false ∧ (code == 196) = false) := by
        by_cases x1 : code = 219
        · have := hcn (.inl x1)
          exact .inl ⟨by simpa using x1, by simp; omega⟩
        · by_cases x2 : code = 196
          · have := hcn (.inr x2)
            exact .inr (.inl ⟨by simpa using x1, by simpa using x2, by simp; omega⟩)
          · exact .inr (.inr ⟨by simpa using x1, by simpa using x2⟩)
      have hst := HD3.out.str c
      have hstS : ∀ w', Kp Nn w2 w' → rdBs Tryd.prog w' (.slice A n c) = some (stOf d) := fun w' hk => by
        rw [HN.out]
        exact (HD3.out.kp hk (fun i h => absurd h (fun h => h))).str c
      have HST := Lib.hid hstS
      clear HE0 hbad hcn hst hstS HD3
      rcases h3 with ⟨y1, e0⟩ | ⟨y1, y2, e0⟩ | ⟨y1, y2⟩
      all_goals
        go_wp2_with fail
        refine wp_region_mixn (fun w' => Kp Nn w2 w') 12 [(0,true),(1,true),(3,true),(4,true),(5,true),(8,true),(9,true),(2,false),(6,false),(7,false),(10,false),(11,false),(12,false)] (fun l => (l.take 2) ++ (((l.drop 3).take 3) ++ (((l.drop 8).take 2) ++ (((l.drop 2).take 1) ++ (((l.drop 6).take 2) ++ (l.drop 10)))))) 7 (by kernel_rfl) (by kernel_rfl) (by kernel_rfl) (by kernel_rfl) ((Kp.refl _ _).drew) ?_
        simp only [List.take_succ_cons, List.take_zero, List.drop_succ_cons, List.drop_zero, List.cons_append, List.nil_append]
        intro hsn hsx N hN
        have fx0 := fun x => (hsx x).cell' c2 (fun h => h)
        have fx1 := fun x => HST.out _ (hsx x)
        clear hsx
        repeat (go_big_quiet_step (fail))
        refine wpQuiet_nil (hN _ ?_)
        clear hN N hsn fx0 fx1
        obtain ⟨w6, hw6⟩ : ∃ y, y = w2.drew := ⟨_, rfl⟩
        have k6 : Kp Nn w2 w6 := by rw [hw6]; exact (Kp.refl _ _).drew
        rw [← hw6]
        clear hw6
        refine wpMix_act rfl ?_
        intro N hN
        go_wp2
        obtain ⟨w7, hw7⟩ : ∃ y, y = World.alloc w6 (.cells #[.int .u8 255, .int .u8 code] 5) := ⟨_, rfl⟩
        have k7 : Kp Nn w2 w7 := by rw [hw7]; exact k6.alloc _
        have b7 : By w7 w6.heap.size (.slice (some ⟨w6.heap.size, 0, none⟩) 2 2) [255, code] := by rw [hw7]; exact By.lit w6 [255, code] (by simp [maxLen])
        have hs7 : w6.heap.size ≤ w7.heap.size := by rw [hw7]; simp
        rw [← hw7]
        refine hN _ _ k7 ?_
        clear hN N hw7
        refine wpMix_act rfl ?_
        intro N hN
        go_wp2_with fail
        refine (two_v w7 w6.heap.size _ _ ((n : Int) + 2) (by omega) (by omega) b7 (by simp) hs7).mono ?_
        rintro e w8 ⟨v8, rfl, b8, kk, _⟩
        have k8 : Kp Nn w2 w8 := Kp.comp k7 kk (fun i hi h => h.elim id (fun h => by have := (b7.lt _ h).1; have := k6.size; omega))
        have s8 := b8.str
        have e4 : (stOf (255 :: code :: twoS ((n : Int) + 2))).size = 4 := by simp [stOf, ByteArray.size, twoS]
        have e5 : (stOf d).size = n := by rw [HN.out]; simp [stOf, ByteArray.size]
        have e6 : ¬ (4 + n > 9223372036854775807) := by omega
        have e7 : ¬ (9223372036854775807 < 4 + n) := by omega
        clear kk b7 b8 k7
        go_wp2
        refine hN _ _ k8 ?_
        clear hN N
        refine wpMix_act rfl ?_
        intro N hN
        go_wp2
        refine hN _ _ k8 ?_
        clear hN N
        refine wpMix_act rfl ?_
        intro N hN
        go_wp2
        refine hN _ _ k8 ?_
        clear hN N
        refine wpMix_act rfl ?_
        intro N hN
        go_wp2
        refine hN _ _ k8 ?_
        clear hN N
        refine wpMix_last rfl ?_
        intro N hN
        go_wp2
        go_ret2
        rw [HE.out]
        refine ⟨?_, hkw2.trans k8⟩
        rw [← stOf_append]
        simp
end Go.Proofs.YtnpkpikoeijdcaaDoor
