/- Contract: mosaiclaw15.awake. -/
import Derived.Test.YtnpkpikoeijdcaaDoorEb
set_option linter.unusedVariables false
set_option linter.unusedSimpArgs false
namespace Go.Proofs.YtnpkpikoeijdcaaDoor
open Go Go.RowKit

def sDri (r : Int) : Sg := ⟨221, 0, 0, [], [], ⟨0, 0, 0, []⟩, [], [], r, []⟩
def cDri (r : Int) : Array Value := #[.int .u8 221, .int .i64 0, .int .i64 0, .slice none 0 0, .slice none 0 0, .int .u8 0, .int .i64 0, .int .i64 0, .slice none 0 0, .slice none 0 0, .slice none 0 0, .int .i64 r, .string ⟨#[]⟩]
theorem sgr_dri (w : World) (r : Int) : SgR w (sDri r) (cDri r) :=
  ⟨none, none, none, none, none, 0, 0, 0, 0, 0, [], ⟨#[]⟩, rfl, rfl, ⟨Rd.nil _ _ _ _, Nat.le_refl _, by simp [maxLen]⟩, ⟨Rd.nil _ _ _ _, rfl, Nat.le_refl _, by simp [maxLen]⟩, ⟨Rd.nil _ _ _ _, Nat.le_refl _, by simp [maxLen]⟩, ⟨Rd.nil _ _ _ _, Nat.le_refl _, by simp [maxLen]⟩, ⟨Rd.nil _ _ _ _, Nat.le_refl _, by simp [maxLen]⟩⟩
theorem sgo_dri (r : Int) : SgOk (sDri r) := ⟨by simp [sDri], by simp [sDri], by simp [sDri], by simp [sDri], by simp [sDri], by simp [sDri], by simp [sDri], by simp [sDri]⟩
def fCom : ByteArray := ⟨#[65, 255, 254, 0, 5, 97, 98, 99, 100]⟩
def fBad : ByteArray := ⟨#[255, 221, 0, 4, 0]⟩
def sCom : Sg := ⟨254, 1, 8, [], [], ⟨0, 0, 0, []⟩, [], [], 0, [97, 98, 99]⟩
theorem sgo_com : SgOk sCom := ⟨by simp [sCom], by simp [sCom], by simp [sCom], by simp [sCom], by simp [sCom], by simp [sCom], by simp [sCom], by simp [sCom]⟩
theorem read_com : readS (bl fCom) 1 = .ok sCom := by kernel_rfl
theorem read_bad : readS (bl fBad) 0 = .error (44, 5) := by kernel_rfl
theorem text_dri7 : textS (sDri 7) = .ok [255, 221, 0, 4, 0, 7] := by kernel_rfl
theorem text_dri9 : textS (sDri 9) = .ok [255, 221, 0, 4, 0, 9] := by kernel_rfl
theorem text_com : textS sCom = .ok [255, 254, 0, 5, 97, 98, 99] := by kernel_rfl
theorem st_dri7 : stOf [255, 221, 0, 4, 0, 7] = ⟨#[255, 221, 0, 4, 0, 7]⟩ := by kernel_rfl
theorem zc119_size : Tryd.zeroCells119[558]? = some (.slice none 0 0) ∧ Tryd.zeroCells119[409]? = some (.int .i64 0) ∧ Tryd.zeroCells119.size = 559 := by
  refine ⟨?_, ?_, ?_⟩ <;> kernel_rfl
theorem sg_ones {cs : Array Value} {w : World} {s : Sg} (h : SgR w s cs) : ∀ v ∈ cs.toList, v.oneCell' = true := by
  obtain ⟨_, _, _, _, _, _, _, _, _, _, _, _, rfl, _⟩ := h
  simp [Value.oneCell']
def zSeg : Array Value := #[.int .u8 0, .int .i64 0, .int .i64 0, .slice none 0 0, .slice none 0 0, .int .u8 0, .int .i64 0, .int .i64 0, .slice none 0 0, .slice none 0 0, .slice none 0 0, .int .i64 0, .string ⟨#[]⟩]
theorem seg_st (w : World) (cs : Array Value) (hs : cs.size = 13) (h1 : ∀ v ∈ cs.toList, v.oneCell' = true) :
    okSt (w.alloc (.cells #[.int .u8 0, .int .i64 0, .int .i64 0, .slice none 0 0, .slice none 0 0, .int .u8 0, .int .i64 0, .int .i64 0, .slice none 0 0, .slice none 0 0, .slice none 0 0, .int .i64 0, .string ⟨#[]⟩] 30)) w.heap.size 0 13 cs = true ∧
    wrRow (w.alloc (.cells #[.int .u8 0, .int .i64 0, .int .i64 0, .slice none 0 0, .slice none 0 0, .int .u8 0, .int .i64 0, .int .i64 0, .slice none 0 0, .slice none 0 0, .slice none 0 0, .int .i64 0, .string ⟨#[]⟩] 30)) w.heap.size 0 cs.toList = w.alloc (.cells cs 30) := by
  refine ⟨okSt_new _ _ _ _ _ rfl hs h1, ?_⟩
  rw [wrRow_new _ _ _ _ _ rfl (by simpa using hs)]
set_option maxHeartbeats 4000000 in
set_option maxRecDepth 100000 in
attribute [local go_sem ↓] sg_load sg_store in
theorem awake_c (w : World) (hE : ErrT w) : Calls Tryd.prog 9 #[] w fun e w' => e = .returned (.bool true) ∧ Kp Nn w w' := by
  have R1 := read_c w fCom (by decide) 1 hE
  rw [read_com] at R1
  unfold fCom at R1
  have HR1 := Lib.hid R1
  have HE := Lib.hid hE
  clear R1 hE
  go_enter Tryd.func9, Tryd.ntmps9
  go_wp2_with fail
  refine HR1.out.mono ?_
  rintro e w1 ⟨cs, rfl, hsv, hk1⟩
  have hsr := hsv.rd
  have hsz := hsr.size
  obtain ⟨st1, st2⟩ := seg_st w1 cs hsz (sg_ones hsr)
  obtain ⟨ds, hds, q0, q1, q2, q12⟩ : ∃ ds, bl ds = sCom.data ∧ cs[0]? = some (.int .u8 254) ∧ cs[1]? = some (.int .i64 1) ∧ cs[2]? = some (.int .i64 8) ∧ cs[12]? = some (.string ds) := by
    obtain ⟨_, _, _, _, _, _, _, _, _, _, _, ds, rfl, h, _⟩ := hsr
    exact ⟨ds, h, rfl, rfl, rfl, rfl⟩
  obtain rfl : ds = ⟨#[97, 98, 99]⟩ := bl_inj (by rw [hds]; rfl)
  obtain ⟨w2, hw2⟩ : ∃ w2, w2 = w1.alloc (.cells cs 30) := ⟨_, rfl⟩
  have hb2 : Blk w2 w1.heap.size 30 cs := by rw [hw2]; exact Blk.new _ _ _
  have hk2 : Kp Nn w w2 := by rw [hw2]; exact hk1.alloc _
  have hsr2 : SgR w2 sCom cs := hsr.kp (by rw [hw2]; exact (Kp.refl _ _).alloc _)
  have HW2 := Lib.hid hw2
  have HT := Lib.hid (text_c w2 (sDri 7) (cDri 7) (sgr_dri w2 7) (sgo_dri 7))
  rw [text_dri7] at HT
  unfold cDri at HT
  have HS2 := Lib.hid hsr2
  clear hsv hsr hw2 hsr2 hk1 HR1 hds
  go_wp2_with fail
  rw [← HW2.out]
  refine HT.out.mono ?_
  rintro e w3 ⟨rfl, hk3⟩
  rw [st_dri7]
  have hkw3 := hk2.trans hk3
  have R2 := read_c w3 fBad (by decide) 0 (HE.out.kp hkw3 (fun h => h))
  rw [read_bad] at R2
  unfold fBad at R2
  have HR2 := Lib.hid R2
  clear R2 HT st1 st2
  go_wp2_with fail
  refine HR2.out.mono ?_
  rintro e w4 ⟨g, rfl, hbg, hgs, hk4⟩
  have hkw4 := hkw3.trans hk4
  obtain ⟨st1, st2⟩ := seg_st w4 sgZ rfl (by simp [sgZ, Value.oneCell'])
  obtain ⟨w5, hw5⟩ : ∃ w5, w5 = w4.alloc (.cells sgZ 30) := ⟨_, rfl⟩
  have hk45 : Kp Nn w4 w5 := by rw [hw5]; exact (Kp.refl _ _).alloc _
  have hkw5 := hkw4.trans hk45
  have HF := Lib.hid (told_fault w5 g 44 5 (HE.out.kp hkw5 (fun h => h)) (hbg.kp hk45 (fun h => h)) (by omega))
  have HW5 := Lib.hid hw5
  clear hw5 HR2 hbg hgs
  go_wp2_with fail
  rw [← HW5.out]
  refine HF.out.mono ?_
  rintro e w6 ⟨rfl, hk6⟩
  clear st1 st2 HF
  obtain ⟨w7, hw7⟩ : ∃ w7, w7 = w6.alloc (.cells #[.int .i64 44, .int .i64 5] 44) := ⟨_, rfl⟩
  have hb7 : Blk w7 w6.heap.size 44 #[.int .i64 44, .int .i64 5] := by rw [hw7]; exact Blk.new _ _ _
  have hk67 : Kp Nn w6 w7 := by rw [hw7]; exact (Kp.refl _ _).alloc _
  have HW7 := Lib.hid hw7
  have HN := Lib.hid (new_c w7)
  clear hw7
  go_wp2_with fail
  rw [← HW7.out]
  refine HN.out.mono ?_
  rintro e w8 ⟨rfl, rfl⟩
  obtain ⟨w8, hw8⟩ : ∃ w8, w8 = w7.alloc (.cells Tryd.zeroCells119 119) := ⟨_, rfl⟩
  have hk78 : Kp Nn w7 w8 := by rw [hw8]; exact (Kp.refl _ _).alloc _
  have hb8 : Blk w8 w7.heap.size 119 Tryd.zeroCells119 := by rw [hw8]; exact Blk.new _ _ _
  rw [← hw8]
  obtain ⟨z1, z2, z3⟩ := zc119_size
  have hk28 : Kp Nn w2 w8 := (((hk3.trans hk4).trans hk45).trans hk6).trans (hk67.trans hk78)
  have hb28 := hb2.kp hk28 (fun h => h)
  have hb78 := hb7.kp hk78 (fun h => h)
  have hkw8 := hk2.trans hk28
  have T1 := Lib.hid (take_dri w8 (sDri 9) (cDri 9) w7.heap.size _ _ _ (sgr_dri w8 9) (sgo_dri 9) rfl text_dri9 hb8 z2)
  unfold cDri at T1
  have hw2s := hk2.size
  have hS2 : w2.heap.size ≤ w7.heap.size := by have := ((hk3.trans hk4).trans hk45).size; have := hk6.size; have := hk67.size; omega
  have hS : w1.heap.size < w7.heap.size := by have := hb2.lt; have := hk28.size; have := ((hk3.trans hk4).trans hk45).size; have := hk6.size; have := hk67.size; omega
  have hF : w6.heap.size < w7.heap.size := hb7.lt
  have hsr8 := HS2.out.kp hk28
  clear HN HW7 HW5 HW2 hb7 hk67 hk78 hk6 hk45 hk4 hk3 hw8 hb2 hkw3 hkw4 hkw5 hk2
  go_wp2_with fail
  refine T1.out.mono ?_
  rintro e w9 ⟨rfl, hk9, hb9⟩
  obtain ⟨st9, hst9⟩ : ∃ st9, st9 = (Tryd.zeroCells119).setIfInBounds 409 (.int .i64 9) := ⟨_, rfl⟩
  have hb9' : Blk w9 w7.heap.size 119 st9 := by rw [hst9]; exact hb9
  have y1 : st9[558]? = some (.slice none 0 0) := by rw [hst9, Array.getElem?_setIfInBounds_ne (by decide)]; exact z1
  have y2 : st9[409]? = some (.int .i64 9) := by rw [hst9, Array.getElem?_setIfInBounds_self_of_lt (by rw [z3]; decide)]
  have y3 : st9.size = 559 := by rw [hst9, Array.size_setIfInBounds]; exact z3
  have hk29 : Kp Nn w2 w9 := Kp.comp hk28 hk9 (fun i hi h => h.elim id (fun h => by omega))
  have hb29 := hb28.kp hk9 (by omega)
  have hb79 := hb78.kp hk9 (by omega)
  have hw78 : w.heap.size ≤ w7.heap.size := by omega
  have hkw9 : Kp Nn w w9 := Kp.comp hkw8 hk9 (fun i hi h => h.elim id (fun h => by omega))
  have rd9 : rdRow w9 w1.heap.size 0 13 = some cs.toList := hb29.rdAll (cs := cs.toList) (by simpa using hsz)
  have T2 := Lib.hid (take_com w9 sCom cs w7.heap.size st9 _ (HS2.out.kp hk29) sgo_com rfl text_com hb9' y1)
  clear T1 hst9 z1 z2 z3 hb9 hb8 hk9 hk28 hb28 hb78 hkw8 hsr8 hk29 HS2
  go_wp2_with fail
  refine T2.out.mono ?_
  rintro e w10 ⟨rfl, hk10, v', ds', hds', hb10, hown⟩
  obtain rfl : ds' = ⟨#[97, 98, 99]⟩ := bl_inj (by rw [hds']; rfl)
  obtain ⟨A, c, rfl, _, _, hrd⟩ := Rd.own hown
  obtain ⟨b, off, rfl, hbl, hcc⟩ := hrd.at_ (by omega)
  obtain ⟨st10, hst10⟩ : ∃ st10, st10 = st9.setIfInBounds 558 (.slice (some ⟨b, off, none⟩) 1 c) := ⟨_, rfl⟩
  rw [← hst10] at hb10
  have y4 : st10[558]? = some (.slice (some ⟨b, off, none⟩) 1 c) := by rw [hst10, Array.getElem?_setIfInBounds_self_of_lt (by rw [y3]; decide)]
  have y5 : st10[409]? = some (.int .i64 9) := by rw [hst10, Array.getElem?_setIfInBounds_ne (by decide)]; exact y2
  have hb210 := hb29.kp hk10 (by omega)
  have hb710 := hb79.kp hk10 (by omega)
  have hkw10 : Kp Nn w w10 := Kp.comp hkw9 hk10 (fun i hi h => h.elim id (fun h => by omega))
  have T3 := Lib.hid (extras_c w10 w7.heap.size b off c st10 _ rfl (by simp [Value.oneCell']) hcc hb10 y4)
  clear T2 hst10 y1 y2 y3 y4 hb9' hb29 hb79 hkw9 hk10 rd9 hown hrd hcc hds'
  go_wp2_with fail
  refine T3.out.mono ?_
  rintro e w11 ⟨v2, rfl, hk11, hown⟩
  obtain ⟨A, c2, rfl, _, _, hrd⟩ := Rd.own hown
  obtain ⟨b2, off2, rfl, hbl2, hcc⟩ := hrd.at_ (by omega)
  have x0 : w11.cell? ⟨w1.heap.size, 0, none⟩ = some (.int .u8 254) := by rw [(hb210.kp hk11 (fun h => h)).cell]; exact q0
  have x1 : w11.cell? ⟨w1.heap.size, 1, none⟩ = some (.int .i64 1) := by rw [(hb210.kp hk11 (fun h => h)).cell]; exact q1
  have x2 : w11.cell? ⟨w1.heap.size, 2, none⟩ = some (.int .i64 8) := by rw [(hb210.kp hk11 (fun h => h)).cell]; exact q2
  have x12 : w11.cell? ⟨w1.heap.size, 12, none⟩ = some (.string ⟨#[97, 98, 99]⟩) := by rw [(hb210.kp hk11 (fun h => h)).cell]; exact q12
  have g0 : w11.cell? ⟨w6.heap.size, 0, none⟩ = some (.int .i64 44) := by rw [(hb710.kp hk11 (fun h => h)).cell]; rfl
  have g1 : w11.cell? ⟨w6.heap.size, 1, none⟩ = some (.int .i64 5) := by rw [(hb710.kp hk11 (fun h => h)).cell]; rfl
  have u1 : w11.cell? ⟨b2, off2 + 1, none⟩ = some (.string ⟨#[97, 98, 99]⟩) := hcc 1 _ rfl
  have T4 := Lib.hid (restart_c w11 w7.heap.size st10 9 (hb10.kp hk11 (fun h => h)) y5)
  have HK := Lib.hid (hkw10.trans hk11)
  clear T3 y5 hb10 hb210 hb710 hkw10 hk11 hown hrd hcc q0 q1 q2 q12
  go_wp2_with fail
  refine T4.out.mono ?_
  rintro e w12 ⟨rfl, rfl⟩
  clear T4
  go_wp2
  go_ret
  exact ⟨rfl, HK.out⟩
end Go.Proofs.YtnpkpikoeijdcaaDoor
