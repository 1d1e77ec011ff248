/- Contract: segment.readScan. -/
import Derived.Test.YtnpkpikoeijdcaaDoorCf
import Derived.Lib.Strings
set_option linter.unusedVariables false
set_option linter.unusedSimpArgs false
namespace Go.Proofs.YtnpkpikoeijdcaaDoor
open Go Go.RowKit

def idAt (l : List Int) (o k : Nat) : Int := l.getD (o + 2 * k) 0
def ptAt (l : List Int) (o k : Nat) : Pt := ⟨0, l.getD (o + 2 * k + 1) 0 / 16, l.getD (o + 2 * k + 1) 0 % 16⟩
def ptOk (l : List Int) (o k : Nat) : Bool := decide (l.getD (o + 2 * k + 1) 0 / 16 ≤ 3) && decide (l.getD (o + 2 * k + 1) 0 % 16 ≤ 3)
def idsTo (l : List Int) (o n : Nat) : List Int := (List.range n).map (idAt l o)
def ptsTo (l : List Int) (o n : Nat) : List Pt := (List.range n).map (ptAt l o)
theorem idsTo_len (l : List Int) (o n : Nat) : (idsTo l o n).length = n := by simp [idsTo]
theorem ptsTo_len (l : List Int) (o n : Nat) : (ptsTo l o n).length = n := by simp [ptsTo]
theorem idsTo_succ (l : List Int) (o n : Nat) : idsTo l o (n + 1) = idsTo l o n ++ [idAt l o n] := by simp [idsTo, List.range_succ]
theorem ptsTo_succ (l : List Int) (o n : Nat) : ptsTo l o (n + 1) = ptsTo l o n ++ [ptAt l o n] := by simp [ptsTo, List.range_succ]
theorem rdParts_eq : ∀ (n : Nat) (l : List Int) (o : Nat), rdParts n (l.drop o) = if (List.range n).all (ptOk l o) = true then .ok (idsTo l o n, ptsTo l o n) else .error 155
  | 0, l, o => by simp [rdParts, idsTo, ptsTo]
  | n + 1, l, o => by
    have e0 : (l.drop o).getD 0 0 = l.getD o 0 := by simp [List.getD_eq_getElem?_getD]
    have e1 : (l.drop o).getD 1 0 = l.getD (o + 1) 0 := by simp [List.getD_eq_getElem?_getD]
    have es : ∀ k, ptOk l o (k + 1) = ptOk l (o + 2) k := fun k => by
      unfold ptOk; rw [show o + 2 * (k + 1) + 1 = o + 2 + 2 * k + 1 from by omega]
    have ei : ∀ k, idAt l o (k + 1) = idAt l (o + 2) k := fun k => by
      unfold idAt; rw [show o + 2 * (k + 1) = o + 2 + 2 * k from by omega]
    have ep : ∀ k, ptAt l o (k + 1) = ptAt l (o + 2) k := fun k => by
      unfold ptAt; rw [show o + 2 * (k + 1) + 1 = o + 2 + 2 * k + 1 from by omega]
    have hall : (List.range (n + 1)).all (ptOk l o) = (ptOk l o 0 && (List.range n).all (ptOk l (o + 2))) := by
      rw [List.range_succ_eq_map, List.all_cons, List.all_map]
      congr 1
      refine congrArg (fun f => (List.range n).all f) ?_
      funext k; exact es k
    have hid : idsTo l o (n + 1) = l.getD o 0 :: idsTo l (o + 2) n := by
      unfold idsTo
      rw [List.range_succ_eq_map, List.map_cons, List.map_map]
      congr 1
      refine List.map_congr_left fun k _ => ei k
    have hpt : ptsTo l o (n + 1) = ⟨0, l.getD (o + 1) 0 / 16, l.getD (o + 1) 0 % 16⟩ :: ptsTo l (o + 2) n := by
      unfold ptsTo
      rw [List.range_succ_eq_map, List.map_cons, List.map_map]
      congr 1
      refine List.map_congr_left fun k _ => ep k
    rw [rdParts, e0, e1, List.drop_drop, rdParts_eq n l (o + 2), hall, hid, hpt]
    by_cases h : 3 < l.getD (o + 1) 0 / 16 ∨ 3 < l.getD (o + 1) 0 % 16
    · have h0 : ptOk l o 0 = false := by
        unfold ptOk
        rw [show o + 2 * 0 + 1 = o + 1 from by omega, Bool.and_eq_false_iff, decide_eq_false_iff_not, decide_eq_false_iff_not]
        omega
      rw [if_pos h, h0]
      simp
    · have h0 : ptOk l o 0 = true := by
        unfold ptOk
        rw [show o + 2 * 0 + 1 = o + 1 from by omega, Bool.and_eq_true, decide_eq_true_eq, decide_eq_true_eq]
        omega
      rw [if_neg h, h0, Bool.true_and]
      by_cases h2 : (List.range n).all (ptOk l (o + 2)) = true
      · rw [if_pos h2, if_pos h2]
      · rw [if_neg h2, if_neg h2]
def ptCells (p : Pt) : List Value := [.int .i64 p.comp, .int .u8 p.dc, .int .u8 p.ac]
def ptsCells (l : List Pt) : List Value := l.flatMap ptCells
theorem ptsCells_snoc (l : List Pt) (p : Pt) : ptsCells (l ++ [p]) = ptsCells l ++ ptCells p := by simp [ptsCells]
theorem u8s_snoc (l : List Int) (x : Int) : u8s (l ++ [x]) = u8s l ++ [.int .u8 x] := by simp [u8s]
theorem b_append : type_of% (@ex_append Tryd.prog 28) := @ex_append Tryd.prog 28
theorem p_append : type_of% (@ex_append Tryd.prog 27) := @ex_append Tryd.prog 27
theorem byte_info0 : (Tryd.prog.info? 5).map (fun i => (i.zero, i.size, i.bytes)) = some (some (.int .u8 0), 1, 1) := by kernel_rfl
theorem byte_info : ∃ i0, Tryd.prog.info? 5 = some i0 ∧ i0.zero = some (.int .u8 0) ∧ i0.size = 1 ∧ i0.bytes = 1 := info_parts byte_info0
theorem part_info0 : (Tryd.prog.info? 69).map (fun i => (i.zero, i.size, i.bytes)) = some (some (.agg #[.int .i64 0, .int .u8 0, .int .u8 0]), 3, 16) := by kernel_rfl
theorem part_info : ∃ i0, Tryd.prog.info? 69 = some i0 ∧ i0.zero = some (.agg #[.int .i64 0, .int .u8 0, .int .u8 0]) ∧ i0.size = 3 ∧ i0.bytes = 16 := info_parts part_info0

def ScanPost (w : World) (gs : Nat) (c : Value → Value → Array Value) (r : Except Int (List Int × List Pt)) (e : Ending) (w' : World) : Prop :=
  match r with
  | .error er => e = .returned (.int .i64 er) ∧ Kp (fun i => i = gs) w w'
  | .ok (ids, pts) => e = .returned (.int .i64 0) ∧ Kp (fun i => i = gs) w w' ∧ ∃ pv iv, w'.ownsRow w.heap.size 69 3 pv pts.length (ptsCells pts) ∧
      w'.ownsRow w.heap.size 5 1 iv ids.length (u8s ids) ∧ Blk w' gs 30 (c pv iv)

theorem ba_empty {d : ByteArray} (h : d.size = 0) : d = ⟨#[]⟩ := by
  cases d with
  | mk a =>
    have : a.size = 0 := h
    rw [Array.size_eq_zero_iff.1 this]
theorem ba_toList (d : ByteArray) : d.toList = d.data.toList := Lib.toList_data d
theorem ba_some {d : ByteArray} (h : 0 < d.size) : d.toList.isEmpty = false := by
  cases hd : d.toList with
  | cons x l => rfl
  | nil =>
    exfalso
    have h1 : d.toList = d.data.toList := ba_toList d
    rw [h1] at hd
    have : d.data.size = 0 := by
      have := congrArg List.length hd
      simpa using this
    have h2 : d.size = d.data.size := rfl
    omega

theorem ba_eq (s : ByteArray) (l : List UInt8) (m : List Int) (hm : l.map (fun b => (b.toNat : Int)) = m) : (s.toList == l) = decide (bl s = m) := by
  rw [ba_toList, Bool.eq_iff_iff, beq_iff_eq, decide_eq_true_eq, ← hm]
  unfold bl
  constructor
  · intro h; rw [h]
  · intro h
    exact (List.map_inj_right (f := fun b : UInt8 => (b.toNat : Int)) (fun x y hxy => UInt8.toNat_inj.1 (Int.ofNat_inj.1 hxy))).1 h
theorem all_succ (l : List Int) (o k : Nat) (h : (List.range k).all (ptOk l o) = true) (h2 : ptOk l o k = true) : (List.range (k + 1)).all (ptOk l o) = true := by
  rw [List.range_succ, List.all_append, h]; simp [h2]
theorem all_bad (l : List Int) (o k n : Nat) (hk : k < n) (h2 : ptOk l o k = false) : (List.range n).all (ptOk l o) = false := by
  rw [Bool.eq_false_iff]
  intro h
  rw [List.all_eq_true] at h
  have := h k (List.mem_range.2 hk)
  rw [h2] at this
  cases this

set_option maxHeartbeats 2000000 in
set_option maxRecDepth 100000 in
attribute [local go_sem ↓] b_append p_append in
theorem readScan_c (w : World) (gs : Nat) (d : ByteArray) (hs : (d.size : Int) ≤ 1000000)
    (c0 c1 c2 c3 c4 c5 c6 c7 c8 c11 c12 : Value) (hsg : Blk w gs 30 #[c0, c1, c2, c3, c4, c5, c6, c7, c8, .slice none 0 0, .slice none 0 0, c11, c12]) :
    Calls Tryd.prog 75 #[.pointer (some ⟨gs, 0, none⟩), .string d] w fun e w' =>
      ScanPost w gs (fun pv iv => #[c0, c1, c2, c3, c4, c5, c6, c7, c8, pv, iv, c11, c12]) (rdScan (bl d)) e w' := by
  have hsgl := hsg.lt
  have HSG := Lib.hid hsg
  clear hsg
  have HR := Lib.hid (bl_range d)
  by_cases hz : d.size = 0
  · obtain rfl := ba_empty hz
    clear hz
    go_enter Tryd.func75, Tryd.ntmps75
    go_wp2
    go_ret
    exact ⟨rfl, Kp.refl _ _⟩
  have h0 : 0 < d.size := by omega
  clear hz
  have hne1 := ba_some h0
  obtain ⟨y0, vy0⟩ : ∃ y, y = (bl d).getD 0 0 := ⟨_, rfl⟩
  have g0 : (d[0].toNat : Int) = y0 := (bl_get d 0 h0).trans vy0.symm
  have hr0 := bl_range d 0
  rw [← vy0] at hr0
  obtain ⟨hr0a, hr0b⟩ := hr0
  by_cases hl : (d.size : Int) = 4 + 2 * y0
  case neg =>
    have HSP : Hid (rdScan (bl d) = .error 152) := by
      unfold rdScan
      rw [if_pos (.inr (by rw [bl_length, ← vy0]; exact hl))]
      exact Lib.hid rfl
    have hl' : ((d.size : Int) != 4 + 2 * y0) = true := by simpa using hl
    clear vy0 hl
    go_enter Tryd.func75, Tryd.ntmps75
    go_wp2
    go_ret
    rw [HSP.out]
    exact ⟨rfl, Kp.refl _ _⟩
  have hl' : ((d.size : Int) != 4 + 2 * y0) = false := by simpa using hl
  have HSP0 : Hid (rdScan (bl d) = if y0 < 1 ∨ 4 < y0 ∨ (bl d).drop (d.size - 3) ≠ [0, 63, 0] then .error 155 else rdParts y0.toNat ((bl d).drop 1)) := by
    have hnil : ¬ bl d = [] := by rw [bl_empty]; omega
    conv => arg 1; lhs; unfold rdScan
    rw [if_neg (by rw [bl_length, ← vy0]; rintro (h | h); exact hnil h; exact h hl), ← vy0, bl_length]
    exact Lib.hid rfl
  by_cases hy1 : y0 < 1
  · have HSP : Hid (rdScan (bl d) = .error 155) := by rw [HSP0.out, if_pos (.inl hy1)]; exact Lib.hid rfl
    clear vy0 hl HSP0
    go_enter Tryd.func75, Tryd.ntmps75
    go_wp2
    go_ret
    rw [HSP.out]
    exact ⟨rfl, Kp.refl _ _⟩
  by_cases hy4 : 4 < y0
  · have HSP : Hid (rdScan (bl d) = .error 155) := by rw [HSP0.out, if_pos (.inr (.inl hy4))]; exact Lib.hid rfl
    clear vy0 hl HSP0
    go_enter Tryd.func75, Tryd.ntmps75
    go_wp2
    go_ret
    rw [HSP.out]
    exact ⟨rfl, Kp.refl _ _⟩
  have h3 : (3 : Int) ≤ (d.size : Int) := by omega
  have htn : ((d.size : Int) - 3).toNat = d.size - 3 := by omega
  have htl : ((d.extract (d.size - 3) d.size).toList == [0, 63, 0]) = decide ((bl d).drop (d.size - 3) = [0, 63, 0]) := by
    rw [ba_eq _ _ [0, 63, 0] (by decide), bl_drop]
  by_cases htail : (bl d).drop (d.size - 3) = [0, 63, 0]
  case neg =>
    have HSP : Hid (rdScan (bl d) = .error 155) := by rw [HSP0.out, if_pos (.inr (.inr htail))]; exact Lib.hid rfl
    have htl' : ((d.extract (d.size - 3) d.size).toList == [0, 63, 0]) = false := by rw [htl]; simpa using htail
    clear vy0 hl HSP0 htl htail
    go_enter Tryd.func75, Tryd.ntmps75
    go_wp2
    go_ret
    rw [HSP.out]
    exact ⟨rfl, Kp.refl _ _⟩
  have htl' : ((d.extract (d.size - 3) d.size).toList == [0, 63, 0]) = true := by rw [htl]; simpa using htail
  have HSP : Hid (rdScan (bl d) = if (List.range y0.toNat).all (ptOk (bl d) 1) = true then .ok (idsTo (bl d) 1 y0.toNat, ptsTo (bl d) 1 y0.toNat) else .error 155) := by
    rw [HSP0.out, if_neg (by rintro (h | h | h); exact hy1 h; exact hy4 h; exact h htail), rdParts_eq]; exact Lib.hid rfl
  obtain ⟨n, hn⟩ : ∃ n : Nat, (n : Int) = y0 := ⟨y0.toNat, by omega⟩
  have hn' : y0.toNat = n := by omega
  rw [hn'] at HSP
  have hn1 : 1 ≤ n := by omega
  have hn4 : n ≤ 4 := by omega
  have HL : Hid (d.size = 4 + 2 * n) := by
    have : d.size = 4 + 2 * n := by omega
    exact Lib.hid this
  clear vy0 hl HSP0 htl htail hn hn'
  go_enter Tryd.func75, Tryd.ntmps75
  go_wp2
  go_loopw [5] (fun i wr => ∃ (k m : Nat) (pv iv : Value), k ≤ n ∧ i = .int .i64 m ∧ m = 1 + 2 * k ∧ Blk wr gs 30 #[c0, c1, c2, c3, c4, c5, c6, c7, c8, pv, iv, c11, c12] ∧
      wr.ownsRow w.heap.size 69 3 pv k (ptsCells (ptsTo (bl d) 1 k)) ∧ wr.ownsRow w.heap.size 5 1 iv k (u8s (idsTo (bl d) 1 k)) ∧ Kp (fun i => i = gs) w wr ∧ Hid ((List.range k).all (ptOk (bl d) 1) = true)) (fun i _ => d.size - (intOf i).toNat)
  case atStart => exact ⟨0, 1, _, _, by omega, rfl, by omega, HSG.out, World.ownsRow_nil _ _ _ _, World.ownsRow_nil _ _ _ _, Kp.refl _ _, rfl⟩
  case round =>
    obtain ⟨k, m, pv, iv, hk, rfl, hm, hblk, hop, hoi, hkp, hall⟩ := hrel
    by_cases hlt : k < n
    · have hsz := HL.out
      have hmt : (m : Int) < (d.size : Int) - 3 := by omega
      have m0 : (0 : Int) ≤ (m : Int) := by omega
      have m0' : (m : Int) < (d.size : Int) := by omega
      obtain ⟨p, hp1⟩ : ∃ p, p = m + 1 := ⟨_, rfl⟩
      have m1 : IntKind.i64.wrap ((m : Int) + 1) = (p : Int) := by
        rw [IntWalk.i64_in _ (by omega)]; omega
      have m1a : (0 : Int) ≤ (p : Int) := by omega
      have m1b : (p : Int) < (d.size : Int) := by omega
      have tm : ((m : Int)).toNat = m := by omega
      have tp : ((p : Int)).toNat = p := by omega
      have lm : m < d.size := by omega
      have lp : p < d.size := by omega
      obtain ⟨ym, vm⟩ : ∃ y, y = (bl d).getD m 0 := ⟨_, rfl⟩
      obtain ⟨yp, vp⟩ : ∃ y, y = (bl d).getD p 0 := ⟨_, rfl⟩
      have gm : (d[m].toNat : Int) = ym := (bl_get d m lm).trans vm.symm
      have gp : (d[p].toNat : Int) = yp := (bl_get d p lp).trans vp.symm
      have rp := bl_range d p
      have rm := bl_range d m
      rw [← vp] at rp
      rw [← vm] at rm
      obtain ⟨rpa, rpb⟩ := rp
      obtain ⟨rma, rmb⟩ := rm
      obtain ⟨yl, hyl⟩ : ∃ y, bits .and .u8 yp 15 = y := ⟨_, rfl⟩
      have HYL : Hid (yl = yp % 16) := hyl.symm.trans (and15 yp rpa rpb)
      have HPT : Hid (ptAt (bl d) 1 k = ⟨0, yp / 16, yl⟩) := by
        rw [HYL.out]; unfold ptAt; rw [show 1 + 2 * k + 1 = p from by omega, ← vp]; exact Lib.hid rfl
      have HID : Hid (idAt (bl d) 1 k = ym) := by
        unfold idAt; rw [← hm, ← vm]; exact Lib.hid rfl
      have HOK : Hid (ptOk (bl d) 1 k = (decide (yp / 16 ≤ 3) && decide (yl ≤ 3))) := by
        rw [HYL.out]; unfold ptOk; rw [show 1 + 2 * k + 1 = p from by omega, ← vp]; exact Lib.hid rfl
      have HM := Lib.hid hm
      have HP := Lib.hid hp1
      have HB := Lib.hid hblk
      have HOP := Lib.hid hop
      have HOI := Lib.hid hoi
      clear vm vp hm hsz hblk hop hoi hp1
      by_cases hA : 3 < yp / 16
      · have HE : Hid (rdScan (bl d) = .error 155) := by
          rw [HSP.out, all_bad _ _ k n hlt (by rw [HOK.out]; simp; omega)]; exact Lib.hid rfl
        go_wp2
        refine wp_region_lex (fun _ => True) 11 (by kernel_rfl) (by kernel_rfl) (trivial) ?_
        simp only [List.take_succ_cons, List.take_zero, List.drop_succ_cons, List.drop_zero]
        intro hsn hsx N hN
        repeat (go_big_quiet_step (fail))
        refine wpQuiet_nil (hN _ ?_)
        clear hN N hsn hsx
        refine wpTl_act ?_
        intro N hN
        go_wp2
        refine hN _ _ (trivial) ?_
        clear hN N
        refine wpTl_last ?_
        intro N hN
        go_wp2
        go_ret
        rw [HE.out]
        exact ⟨rfl, (hkp.alloc _).drew⟩
      by_cases hBb : 3 < yl
      · have HE : Hid (rdScan (bl d) = .error 155) := by
          rw [HSP.out, all_bad _ _ k n hlt (by rw [HOK.out]; simp; omega)]; exact Lib.hid rfl
        go_wp2
        refine wp_region_lex (fun _ => True) 11 (by kernel_rfl) (by kernel_rfl) (trivial) ?_
        simp only [List.take_succ_cons, List.take_zero, List.drop_succ_cons, List.drop_zero]
        intro hsn hsx N hN
        repeat (go_big_quiet_step (fail))
        refine wpQuiet_nil (hN _ ?_)
        clear hN N hsn hsx
        refine wpTl_act ?_
        intro N hN
        go_wp2
        refine hN _ _ (trivial) ?_
        clear hN N
        refine wpTl_last ?_
        intro N hN
        go_wp2
        go_ret
        rw [HE.out]
        exact ⟨rfl, (hkp.alloc _).drew⟩
      have hall2 : Hid ((List.range (k + 1)).all (ptOk (bl d) 1) = true) := all_succ _ _ _ hall.out (by rw [HOK.out]; simp; omega)
      clear HOK hall HSP
      go_wp2
      refine wp_region_lex (fun _ => True) 11 (by kernel_rfl) (by kernel_rfl) (trivial) ?_
      simp only [List.take_succ_cons, List.take_zero, List.drop_succ_cons, List.drop_zero]
      intro hsn hsx N hN
      repeat (go_big_quiet_step (fail))
      refine wpQuiet_nil (hN _ ?_)
      clear hN N hsn hsx
      refine wpTl_act ?_
      intro N hN
      go_wp2
      refine hN _ _ (trivial) ?_
      clear hN N
      refine wpTl_last ?_
      intro N hN
      go_wp2
      obtain ⟨w2, hw2⟩ : ∃ w2, w2 = (wr.alloc (.cells #[.int .i64 0, .int .u8 (yp / 16), .int .u8 yl] 69)).drew := ⟨_, rfl⟩
      rw [← hw2]
      have hb2 : Blk w2 gs 30 #[c0, c1, c2, c3, c4, c5, c6, c7, c8, pv, iv, c11, c12] := by rw [hw2]; exact (HB.out.alloc _).drew
      have hq2 : Blk w2 wr.heap.size 69 #[.int .i64 0, .int .u8 (yp / 16), .int .u8 yl] := by rw [hw2]; exact (Blk.new _ _ _).drew
      have hk2 : Kp (fun i => i = gs) w w2 := by rw [hw2]; exact (hkp.alloc _).drew
      have ho2 : w2.ownsRow w.heap.size 69 3 pv k (ptsCells (ptsTo (bl d) 1 k)) := by rw [hw2]; exact (HOP.out.alloc _).drew
      have hi2 : w2.ownsRow w.heap.size 5 1 iv k (u8s (idsTo (bl d) 1 k)) := by rw [hw2]; exact (HOI.out.alloc _).drew
      have hsz2 : w.heap.size ≤ wr.heap.size := hkp.size
      clear hw2
      have hc10 : w2.cell? ⟨gs, 10, none⟩ = some iv := by rw [hb2.cell]; rfl
      have hf10 := hb2.frozen 10
      have hivg : iv.ownBlock ≠ some gs := own_blk_ne hi2 hb2 (by decide)
      have hivq : iv.ownBlock ≠ some wr.heap.size := own_blk_ne hi2 hq2 (by decide)
      have hgl2 := hb2.lt
      have hql2 := hq2.lt
      obtain ⟨i0, hi0, hz0, hz1, hz2⟩ := byte_info
      obtain ⟨hap, gg, cap, w5, hapv, hapw, hown2, hkg, hat, hlt2⟩ := ap_one (P := Tryd.prog) w2 28 w.heap.size 5 i0 _ 1 1 Tryd.underlying28 hi0 hz0 hz1 hz2 (by rfl) (by omega) iv k (u8s (idsTo (bl d) 1 k)) hi2
        #[.int .u8 ym] rfl (by simp [Value.oneCell']) (by simp [maxLen]; omega) (by omega) (by omega)
      have hgg : gs ≠ gg := by
        rcases hat with h | h
        · exact fun e => hivg (by rw [h, e])
        · omega
      have hb5 := hb2.kp hkg hivg
      have hq5 := hq2.kp hkg hivq
      have hc5 : w5.cell? ⟨gs, 10, none⟩ = some iv := by rw [hb5.cell]; rfl
      have hf5 := hb5.frozen 10
      have HB5 := Lib.hid hb5
      have HQ5 := Lib.hid hq5
      have HO2 := Lib.hid ho2
      have HI5 := Lib.hid hown2
      have HI2 := Lib.hid hi2
      have HOPW := HOP
      have HPP := Lib.hid (own_blk_ne (e := 69) ho2 hb2 (by decide))
      clear hb2 hq2 hb5 hq5 ho2 hi2 hown2 HB HOP HOI
      refine wp_region_lex (fun w' => w'.cell? ⟨gs, 10, none⟩ = some iv) 8 (by kernel_rfl) (by kernel_rfl) (hc10) ?_
      simp only [List.take_succ_cons, List.take_zero, List.drop_succ_cons, List.drop_zero]
      intro hsn hsx N hN
      repeat (go_big_quiet_step (fail))
      refine wpQuiet_nil (hN _ ?_)
      clear hN N hsn hsx
      refine wpTl_act ?_
      intro N hN
      go_wp2
      refine hN _ _ ((World.cell?_alloc_lt w2 _ ⟨gs, 10, none⟩ hgl2).trans hc10) ?_
      clear hN N
      refine wpTl_act ?_
      intro N hN
      go_wp2
      refine hN _ _ (hc5) ?_
      clear hN N
      refine wpTl_act ?_
      intro N hN
      go_wp2
      refine hN _ _ (hc5) ?_
      clear hN N
      refine wpTl_act ?_
      intro N hN
      go_wp2
      refine hN _ _ (hc5) ?_
      clear hN N
      refine wpTl_last ?_
      intro N hN
      go_wp2
      obtain ⟨v6, hv6⟩ : ∃ v6 : Value, v6 = .slice (some ⟨gg, 0, none⟩) (k + 1) cap := ⟨_, rfl⟩
      rw [← hv6]
      rw [← hv6] at HI5
      have hv6o : v6.ownBlock = some gg := by rw [hv6]; rfl
      obtain ⟨w6, hw6⟩ : ∃ w6, w6 = w5.setCell ⟨gs, 10, none⟩ v6 := ⟨_, rfl⟩
      rw [← hw6]
      have hb6 : Blk w6 gs 30 #[c0, c1, c2, c3, c4, c5, c6, c7, c8, pv, v6, c11, c12] := by rw [hw6]; exact HB5.out.set_ 10 _
      have hqg : wr.heap.size ≠ gs := by have := HB5.out.ne_ HQ5.out (by decide); exact Ne.symm this
      have hq6 : Blk w6 wr.heap.size 69 #[.int .i64 0, .int .u8 (yp / 16), .int .u8 yl] := by rw [hw6]; exact HQ5.out.far hqg _
      have hki : Kp (fun i => i = gs ∨ iv.ownBlock = some i) w2 w6 := by rw [hw6]; exact (hkg.mono (fun i _ h => .inr h)).setCell (.inl (.inl rfl)) _
      have hk6 : Kp (fun i => i = gs) w w6 := Kp.comp hk2 hki (by
        intro i hi h
        rcases h with h | h | h
        · exact h
        · exact h
        · have := (HI2.out.lt _ h).1
          omega)
      have hp6 : w6.ownsRow w.heap.size 69 3 pv k (ptsCells (ptsTo (bl d) 1 k)) := own_kp HO2.out hki (by
        rintro g hg (rfl | h)
        · exact HPP.out hg
        · exact own_ne HO2.out HI2.out (by decide) hg h)
      have hi6 : w6.ownsRow w.heap.size 5 1 v6 (k + 1) (u8s (idsTo (bl d) 1 (k + 1))) := by
        rw [idsTo_succ, u8s_snoc, HID.out, hw6]
        exact ownsRow_setCell_other HI5.out (by rw [hv6o]; simp; omega) _
      have hv6s : v6.oneCell' = true := by rw [hv6]; rfl
      clear hv6 hw6 HB5 HQ5 HI5 hc10 hf10 hc5 hf5 hap hapv hapw hi0 hz0 hz1 hz2 hkg hki hat hlt2 hv6o
      have hc9 : w6.cell? ⟨gs, 9, none⟩ = some pv := by rw [hb6.cell]; rfl
      have hf9 := hb6.frozen 9
      have q0 : w6.cell? ⟨wr.heap.size, 0, none⟩ = some (.int .i64 0) := by rw [hq6.cell]; rfl
      have q1 : w6.cell? ⟨wr.heap.size, 1, none⟩ = some (.int .u8 (yp / 16)) := by rw [hq6.cell]; rfl
      have q2 : w6.cell? ⟨wr.heap.size, 2, none⟩ = some (.int .u8 yl) := by rw [hq6.cell]; rfl
      have hpvg : pv.ownBlock ≠ some gs := own_blk_ne hp6 hb6 (by decide)
      have hgl6 := hb6.lt
      have hql6 := hq6.lt
      have hpvq : pv.ownBlock ≠ some wr.heap.size := fun h => by
        have := (HO2.out.lt _ h).2
        have h2 := HOPW.out.lt _ h
        omega
      obtain ⟨i1, hi1, hy0, hy1', hy2⟩ := part_info
      obtain ⟨hap, gp2, cap2, w7, hapv, hapw, hown7, hkg7, hat7, hlt7⟩ := ap_one (P := Tryd.prog) w6 27 w.heap.size 69 i1 _ 3 16 Tryd.underlying27 hi1 hy0 hy1' hy2 (by rfl) (by omega) pv k (ptsCells (ptsTo (bl d) 1 k)) hp6
        #[.int .i64 0, .int .u8 (yp / 16), .int .u8 yl] rfl (by simp [Value.oneCell']) (by simp [maxLen]; omega) (by omega) hk6.size
      have hgg7 : gs ≠ gp2 := by
        rcases hat7 with h | h
        · exact fun e => hpvg (by rw [h, e])
        · omega
      have hb7 := hb6.kp hkg7 hpvg
      have hq7 := hq6.kp hkg7 hpvq
      have r0 : w7.cell? ⟨wr.heap.size, 0, none⟩ = some (.int .i64 0) := by rw [hq7.cell]; rfl
      have r1 : w7.cell? ⟨wr.heap.size, 1, none⟩ = some (.int .u8 (yp / 16)) := by rw [hq7.cell]; rfl
      have r2 : w7.cell? ⟨wr.heap.size, 2, none⟩ = some (.int .u8 yl) := by rw [hq7.cell]; rfl
      have hc7 : w7.cell? ⟨gs, 9, none⟩ = some pv := by rw [hb7.cell]; rfl
      have hf7 := hb7.frozen 9
      have HB7 := Lib.hid hb7
      have HO7 := Lib.hid hown7
      have HI6 := Lib.hid hi6
      have HP6 := Lib.hid hp6
      have HBB := Lib.hid hb6
      clear hb6 hq6 hb7 hq7 hown7 hi6 hp6
      refine wp_region_lex (fun w' => w'.cell? ⟨gs, 9, none⟩ = some pv ∧ w'.cell? ⟨wr.heap.size, 0, none⟩ = some (.int .i64 0) ∧ w'.cell? ⟨wr.heap.size, 1, none⟩ = some (.int .u8 (yp / 16)) ∧ w'.cell? ⟨wr.heap.size, 2, none⟩ = some (.int .u8 yl)) 6 (by kernel_rfl) (by kernel_rfl) (⟨hc9, q0, q1, q2⟩) ?_
      simp only [List.take_succ_cons, List.take_zero, List.drop_succ_cons, List.drop_zero]
      intro hsn hsx N hN
      repeat (go_big_quiet_step (fail))
      refine wpQuiet_nil (hN _ ?_)
      clear hN N hsn hsx
      refine wpTl_act ?_
      intro N hN
      go_wp2
      refine hN _ _ (⟨(World.cell?_alloc_lt w6 _ ⟨gs, 9, none⟩ hgl6).trans hc9, (World.cell?_alloc_lt w6 _ ⟨wr.heap.size, 0, none⟩ hql6).trans q0, (World.cell?_alloc_lt w6 _ ⟨wr.heap.size, 1, none⟩ hql6).trans q1, (World.cell?_alloc_lt w6 _ ⟨wr.heap.size, 2, none⟩ hql6).trans q2⟩) ?_
      clear hN N
      refine wpTl_act ?_
      intro N hN
      go_wp2
      refine hN _ _ (⟨hc7, r0, r1, r2⟩) ?_
      clear hN N
      refine wpTl_act ?_
      intro N hN
      go_wp2
      refine hN _ _ (⟨hc7, r0, r1, r2⟩) ?_
      clear hN N
      refine wpTl_act ?_
      intro N hN
      go_wp2
      refine hN _ _ (⟨hc7, r0, r1, r2⟩) ?_
      clear hN N
      refine wpTl_last ?_
      intro N hN
      go_wp2
      go_roundw
      case rel =>
        have hk7 : Kp (fun i => i = gs) w w7 := Kp.comp hk6 hkg7 (by
          intro i hi h
          rcases h with h | h
          · exact h
          · have := (HP6.out.lt _ h).1
            omega)
        refine ⟨k + 1, m + 2, _, v6, by omega, by go_num, by have := HM.out; omega, HB7.out.set_ 9 _, ?_, ?_, hk7.setCell (.inl rfl) _, hall2⟩
        · rw [ptsTo_succ, ptsCells_snoc, HPT.out]
          exact ownsRow_setCell_other HO7.out (by simp [Value.ownBlock]; omega) _
        · exact ownsRow_setCell_other (own_kp HI6.out hkg7 (fun g hg h => own_ne HI6.out HP6.out (by decide) hg h)) (own_blk_ne HI6.out HBB.out (by decide)) _
      case measure => simp [intOf]; omega
    · have hkn : k = n := by omega
      subst hkn
      have hge : (d.size : Int) - 3 ≤ (m : Int) := by
        have h1 := HL.out
        omega
      have HE : Hid (rdScan (bl d) = .ok (idsTo (bl d) 1 k, ptsTo (bl d) 1 k)) := by rw [HSP.out, if_pos hall.out]; exact Lib.hid rfl
      have HB := Lib.hid hblk
      have HOP := Lib.hid hop
      have HOI := Lib.hid hoi
      clear hm hblk hop hoi HSP hlt
      go_wp2
      go_ret
      rw [HE.out]
      refine (⟨rfl, hkp, pv, iv, ?_, ?_, HB.out⟩ : ScanPost w gs (fun pv iv => #[c0, c1, c2, c3, c4, c5, c6, c7, c8, pv, iv, c11, c12]) (.ok (_, _)) (.returned (.int .i64 0)) _)
      · rw [ptsTo_len]; exact HOP.out
      · rw [idsTo_len]; exact HOI.out
end Go.Proofs.YtnpkpikoeijdcaaDoor
