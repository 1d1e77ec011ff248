/- The walk: mosaiclaw15.SegmentAgain. -/
import Derived.Test.YtnpkpikoeijdcaaDoorEc
set_option linter.unusedVariables false
set_option linter.unusedSimpArgs false
namespace Go.Proofs.YtnpkpikoeijdcaaDoor
open Go Go.RowKit

/-- What the plain law says. -/
def AgainLaw : Prop := ∀ (f : List Int) (a : Int) (s : Sg), (∀ x ∈ f, 0 ≤ x ∧ x ≤ 255) → readS f a = .ok s →
  SgOk s ∧ textS s = .ok ((f.drop a.toNat).take (s.end_ - a).toNat) ∧ s.at_ = a ∧ 0 ≤ a ∧ a + 4 ≤ s.end_ ∧ s.end_ ≤ f.length

set_option maxHeartbeats 4000000 in
set_option maxRecDepth 100000 in
attribute [local go_sem ↓] sg_load sg_store in
theorem again_walk (hlaw : AgainLaw) (w : World) (f : ByteArray) (hf : f.size ≤ 140737488351232) (a : Int) (hE : ErrT w) : Calls Tryd.prog 5 #[.string f, .int .i64 a] w fun e w' => e = .returned (.bool true) ∧ Kp Nn w w' := by
  have HA := Lib.hid (awake_c w hE)
  have HR := Lib.hid fun w1 (hk : Kp Nn w w1) => read_c w1 f hf a (hE.kp hk (fun h => h))
  have HL := Lib.hid fun s h => hlaw (bl f) a s (bl_mem f) h
  rw [bl_length] at HL
  clear hlaw hE
  go_enter Tryd.func5, Tryd.ntmps5
  go_wp2_with fail
  refine HA.out.mono ?_
  rintro e w1 ⟨rfl, hk1⟩
  go_wp2_with fail
  refine (HR.out w1 hk1).mono ?_
  rintro e w2 hpost
  clear HA HR
  cases hR : readS (bl f) a with
  | error er =>
    rw [hR] at hpost
    obtain ⟨c, p⟩ := er
    obtain ⟨g, rfl, hbg, hgs, hk2⟩ := hpost
    obtain ⟨st1, st2⟩ := seg_st w2 sgZ rfl (by simp [sgZ, Value.oneCell'])
    have hfin : Kp Nn w (w2.alloc (.cells sgZ 30)) := (hk1.trans hk2).alloc _
    have HF := Lib.hid hfin
    clear hbg hgs hk2 hk1 hfin HL hR
    go_wp2
    go_ret
    exact ⟨rfl, HF.out⟩
  | ok s =>
    rw [hR] at hpost
    obtain ⟨cs, rfl, hsv, hk2⟩ := hpost
    obtain ⟨hok, htx, hat, ha0, hae, hef⟩ := HL.out s hR
    have hsr := hsv.rd
    have hsz := hsr.size
    obtain ⟨st1, st2⟩ := seg_st w2 cs hsz (sg_ones hsr)
    obtain ⟨q1, q2⟩ : cs[1]? = some (.int .i64 s.at_) ∧ cs[2]? = some (.int .i64 s.end_) := by
      obtain ⟨_, _, _, _, _, _, _, _, _, _, _, ds, rfl, h, _⟩ := hsr
      exact ⟨rfl, rfl⟩
    rw [hat] at q1
    obtain ⟨k, rfl⟩ := Int.eq_ofNat_of_zero_le ha0
    obtain ⟨n, hn⟩ := Int.eq_ofNat_of_zero_le (show 0 ≤ s.end_ by omega)
    rw [hn] at q2 htx hae hef
    have hkn : k + 4 ≤ n := by omega
    have hnf : n ≤ f.size := by omega
    have hst : stOf (((bl f).drop ((k : Int)).toNat).take ((n : Int) - (k : Int)).toNat) = f.extract k n := by
      apply bl_inj
      have e1 : ((n : Int) - (k : Int)).toNat = n - k := by omega
      have e2 : ((k : Int)).toNat = k := rfl
      rw [e1, e2, bl_extract, bl_stOf _ (fun x hx => bl_mem f x (List.mem_of_mem_drop (List.mem_of_mem_take hx)))]
    obtain ⟨w3, hw3⟩ : ∃ w3, w3 = w2.alloc (.cells cs 30) := ⟨_, rfl⟩
    have hb3 : Blk w3 w2.heap.size 30 cs := by rw [hw3]; exact Blk.new _ _ _
    have hk3 : Kp Nn w w3 := by rw [hw3]; exact (hk1.trans hk2).alloc _
    have hT := text_c w3 s cs (hsr.kp (by rw [hw3]; exact (Kp.refl _ _).alloc _)) hok
    rw [htx] at hT
    have HT := Lib.hid hT
    have rd3 : rdRow w3 w2.heap.size 0 13 = some cs.toList := hb3.rdAll (cs := cs.toList) (by simpa using hsz)
    have HW3 := Lib.hid hw3
    have rd3' := rd3
    rw [hw3] at rd3'
    clear hT hw3 HL hR hsv hsr htx hat hok ha0 hae hef hk1 hk2 hn hsz
    go_wp2_with fail
    rw [← HW3.out]
    refine HT.out.mono ?_
    rintro e w4 ⟨rfl, hk4⟩
    rw [hst]
    have x1 : w4.cell? ⟨w2.heap.size, 1, none⟩ = some (.int .i64 (k : Int)) := by rw [(hb3.kp hk4 (fun h => h)).cell]; exact q1
    have x2 : w4.cell? ⟨w2.heap.size, 2, none⟩ = some (.int .i64 (n : Int)) := by rw [(hb3.kp hk4 (fun h => h)).cell]; exact q2
    have HK := Lib.hid (hk3.trans hk4)
    clear HT st1 st2 rd3 rd3' hb3 hk3 hk4 q1 q2 hst
    go_wp2
    go_ret
    exact ⟨rfl, HK.out⟩
end Go.Proofs.YtnpkpikoeijdcaaDoor
