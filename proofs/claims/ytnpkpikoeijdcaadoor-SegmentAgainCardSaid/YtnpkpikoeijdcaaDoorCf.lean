/- Contract: segment.readFrame. -/
import Derived.Test.YtnpkpikoeijdcaaDoorCe
import Derived.Test.YtnpkpikoeijdcaaDoorMix
set_option linter.unusedVariables false
set_option linter.unusedSimpArgs false
namespace Go.Proofs.YtnpkpikoeijdcaaDoor
open Go Go.RowKit

def FramePost (w : World) (gs : Nat) (c : Value → Value → Value → Value → Array Value) (r : Except Int Fr) (e : Ending) (w' : World) : Prop :=
  match r with
  | .error er => e = .returned (.int .i64 er) ∧ Kp (fun i => i = gs) w w'
  | .ok f => e = .returned (.int .i64 0) ∧ Kp (fun i => i = gs) w w' ∧ ∃ fv, w'.ownsRow w.heap.size 121 4 fv f.comps.length (cmsCells f.comps) ∧
      Blk w' gs 30 (c (.int .u8 f.kind) (.int .i64 f.width) (.int .i64 f.height) fv)

theorem or_i64_nat (a x : Nat) (ha : a ≤ 255) (hx : x ≤ 255) : bits .or .i64 ((a * 256 : Nat) : Int) (x : Int) = ((a * 256 + x : Nat) : Int) := by
  have hlt : a * 256 ||| x < 2 ^ 16 := Nat.or_lt_two_pow (by omega) (by omega)
  show IntKind.i64.wrap ((BitVec.ofInt 64 ((a * 256 : Nat) : Int) ||| BitVec.ofInt 64 (x : Int)).toNat : Int) = _
  rw [BitVec.toNat_or, ofInt_u64 _ (by omega), ofInt_u64 _ (by omega), nat_join8 (a * 256) x (by omega) (by omega)]
  exact IntWalk.i64_in _ (by omega)
theorem or_i64 (a x : Int) (ha : 0 ≤ a) (ha2 : a ≤ 255) (hx : 0 ≤ x) (hx2 : x ≤ 255) : bits .or .i64 (a * 256) x = a * 256 + x := by
  obtain ⟨a, rfl⟩ := Int.eq_ofNat_of_zero_le ha
  obtain ⟨x, rfl⟩ := Int.eq_ofNat_of_zero_le hx
  have h := or_i64_nat a x (by omega) (by omega)
  rw [Int.natCast_add, Int.natCast_mul] at h
  exact h
theorem and15 (y : Int) (h1 : 0 ≤ y) (h2 : y ≤ 255) : bits .and .u8 y 15 = y % 16 := by
  rw [u8_and y 15 h1 (by omega) (by omega) (by omega)]
  have : y.toNat &&& (15 : Int).toNat = y.toNat % 2 ^ 4 := Nat.and_two_pow_sub_one_eq_mod _ 4
  rw [this]
  omega
theorem c_append : type_of% (@ex_append Tryd.prog 24) := @ex_append Tryd.prog 24
theorem comp_info0 : (Tryd.prog.info? 121).map (fun i => (i.zero, i.size, i.bytes)) = some (some (.agg #[.int .u8 0, .int .u8 0, .int .u8 0, .int .u8 0]), 4, 4) := by kernel_rfl
theorem comp_info : ∃ i0, Tryd.prog.info? 121 = some i0 ∧ i0.zero = some (.agg #[.int .u8 0, .int .u8 0, .int .u8 0, .int .u8 0]) ∧ i0.size = 4 ∧ i0.bytes = 4 := info_parts comp_info0

def cmAt (l : List Int) (o k : Nat) : Cm := ⟨l.getD (o + 3 * k) 0, l.getD (o + 3 * k + 1) 0 / 16, l.getD (o + 3 * k + 1) 0 % 16, l.getD (o + 3 * k + 2) 0⟩
def cmTo (l : List Int) (o n : Nat) : List Cm := (List.range n).map (cmAt l o)
theorem cmTo_len (l : List Int) (o n : Nat) : (cmTo l o n).length = n := by simp [cmTo]
theorem cmTo_succ (l : List Int) (o n : Nat) : cmTo l o (n + 1) = cmTo l o n ++ [cmAt l o n] := by simp [cmTo, List.range_succ]
theorem cmsCells_snoc (l : List Cm) (c : Cm) : cmsCells (l ++ [c]) = cmsCells l ++ cmCells c := by simp [cmsCells]
theorem cmAt_ok (l : List Int) (hr : ∀ i, 0 ≤ l.getD i 0 ∧ l.getD i 0 ≤ 255) (o k : Nat) : CmOk (cmAt l o k) := by
  have h1 := hr (o + 3 * k)
  have h2 := hr (o + 3 * k + 1)
  have h3 := hr (o + 3 * k + 2)
  refine ⟨h1, ?_, ?_, h3⟩ <;> simp only [cmAt] <;> omega
theorem rdComps_eq (n : Nat) : ∀ (l : List Int) (o : Nat), rdComps n (l.drop o) = cmTo l o n := by
  induction n with
  | zero => intro l o; rfl
  | succ n ih =>
    intro l o
    rw [rdComps, List.drop_drop, ih]
    have e : cmTo l o (n + 1) = cmAt l o 0 :: cmTo l (o + 3) n := by
      unfold cmTo
      rw [List.range_succ_eq_map, List.map_cons, List.map_map]
      congr 1
      refine List.map_congr_left fun k _ => ?_
      simp only [Function.comp_apply, cmAt]
      have e1 : o + 3 * (k + 1) = o + 3 + 3 * k := by omega
      rw [e1]
    rw [e]
    congr 1
    simp only [cmAt, List.getD_eq_getElem?_getD, List.getElem?_drop]

set_option maxHeartbeats 8000000 in
set_option maxRecDepth 100000 in
attribute [local go_sem ↓] c_append in
attribute [local go_sem] Cs in
theorem readFrame_c (w : World) (gs : Nat) (d : ByteArray) (hs : (d.size : Int) ≤ 1000000) (code : Int) (hc0 : 0 ≤ code ∧ code ≤ 255)
    (c1 c2 c3 c4 c5 c6 c7 c8 c9 c10 c11 c12 : Value) (hsg : Blk w gs 30 #[.int .u8 code, c1, c2, c3, c4, c5, c6, c7, c8, c9, c10, c11, c12]) :
    Calls Tryd.prog 74 #[.pointer (some ⟨gs, 0, none⟩), .string d] w fun e w' =>
      FramePost w gs (fun a b c x => #[.int .u8 code, c1, c2, c3, c4, a, b, c, x, c9, c10, c11, c12]) (rdFrame code (bl d)) e w' := by
  have hsg0 := hsg.cell 0
  have hsgl := hsg.lt
  simp at hsg0
  have HSG := Lib.hid hsg
  clear hsg
  have HR := Lib.hid (bl_range d)
  by_cases hlen : (d.size : Int) < 6
  · have hspec : rdFrame code (bl d) = .error 152 := by
      unfold rdFrame
      rw [if_pos (.inl (by rw [bl_length]; omega))]
    have HSP := Lib.hid hspec
    clear hspec
    go_enter Tryd.func74, Tryd.ntmps74
    go_wp2
    go_ret
    rw [HSP.out]
    exact ⟨rfl, (Kp.refl _ _)⟩
  · have h5 : 5 < d.size := by omega
    have hv5 := bl_get d 5 h5
    have hr5 := bl_range d 5
    have i5 : 0 ≤ (d[5].toNat : Int) ∧ (d[5].toNat : Int) ≤ 255 := by omega
    obtain ⟨i5a, i5b⟩ := i5
    by_cases hl2 : (d.size : Int) = (6 : Int) + (3 : Int) * (d[5].toNat : Int)
    · have h0 : 0 < d.size := by omega
      have hv0 := bl_get d 0 h0
      have HV0 := Lib.hid hv0
      have HV5 := Lib.hid hv5
      have hspec : rdFrame code (bl d) = if (bl d).getD 0 0 ≠ 8 then .error 158
          else if framedS ⟨code, (bl d).getD 3 0 * 256 + (bl d).getD 4 0, (bl d).getD 1 0 * 256 + (bl d).getD 2 0, cmTo (bl d) 6 d[5].toNat⟩ ≠ 0
            then .error (framedS ⟨code, (bl d).getD 3 0 * 256 + (bl d).getD 4 0, (bl d).getD 1 0 * 256 + (bl d).getD 2 0, cmTo (bl d) 6 d[5].toNat⟩)
            else .ok ⟨code, (bl d).getD 3 0 * 256 + (bl d).getD 4 0, (bl d).getD 1 0 * 256 + (bl d).getD 2 0, cmTo (bl d) 6 d[5].toNat⟩ := by
        have e : ((bl d).length - 6) / 3 = d[5].toNat := by rw [bl_length]; omega
        conv => lhs; unfold rdFrame
        rw [if_neg (by rw [bl_length, ← hv5]; omega), e, rdComps_eq]
      have HSP := Lib.hid hspec
      clear hspec hv0 hv5 hr5
      by_cases hp : (d[0].toNat : Int) = 8
      · have HSP2 : Hid (rdFrame code (bl d) = if framedS ⟨code, (bl d).getD 3 0 * 256 + (bl d).getD 4 0, (bl d).getD 1 0 * 256 + (bl d).getD 2 0, cmTo (bl d) 6 d[5].toNat⟩ ≠ 0
            then .error (framedS ⟨code, (bl d).getD 3 0 * 256 + (bl d).getD 4 0, (bl d).getD 1 0 * 256 + (bl d).getD 2 0, cmTo (bl d) 6 d[5].toNat⟩)
            else .ok ⟨code, (bl d).getD 3 0 * 256 + (bl d).getD 4 0, (bl d).getD 1 0 * 256 + (bl d).getD 2 0, cmTo (bl d) 6 d[5].toNat⟩) := by
          rw [HSP.out, if_neg (by rw [← HV0.out, hp]; simp)]
          exact Lib.hid rfl
        obtain ⟨hr0, hr00⟩ := bl_range d 0
        have r1 := bl_range d 1
        have r2 := bl_range d 2
        have r3 := bl_range d 3
        have r4 := bl_range d 4
        have h1 : 1 < d.size := by omega
        have h2 : 2 < d.size := by omega
        have h3 : 3 < d.size := by omega
        have h4 : 4 < d.size := by omega
        have h1i : (1 : Int) < (d.size : Int) := by omega
        have h2i : (2 : Int) < (d.size : Int) := by omega
        have h3i : (3 : Int) < (d.size : Int) := by omega
        have h4i : (4 : Int) < (d.size : Int) := by omega
        have v1 := bl_get d 1 h1
        have v2 := bl_get d 2 h2
        have v3 := bl_get d 3 h3
        have v4 := bl_get d 4 h4
        rw [← v1] at r1
        rw [← v2] at r2
        rw [← v3] at r3
        rw [← v4] at r4
        obtain ⟨r1a, r1b⟩ := r1
        obtain ⟨r2a, r2b⟩ := r2
        obtain ⟨r3a, r3b⟩ := r3
        obtain ⟨r4a, r4b⟩ := r4
        have V1 := Lib.hid v1
        have V2 := Lib.hid v2
        have V3 := Lib.hid v3
        have V4 := Lib.hid v4
        have hl2' : ((d.size : Int) != (6 : Int) + (3 : Int) * (d[5].toNat : Int)) = false := by simp; omega
        have HL2 := Lib.hid hl2
        clear v1 v2 v3 v4 HSP hr0 hr00 hl2
        go_enter Tryd.func74, Tryd.ntmps74
        go_wp2
        go_region
        go_wp2
        as_aux_lemma =>
          obtain ⟨ht, hht, o1⟩ : ∃ ht : Int, ht = (bl d).getD 1 0 * 256 + (bl d).getD 2 0 ∧ bits .or .i64 ((d[1].toNat : Int) * (256 : Int)) (d[2].toNat : Int) = ht :=
            ⟨_, rfl, by rw [← V1.out, ← V2.out]; exact or_i64 _ _ r1a r1b r2a r2b⟩
          obtain ⟨wd, hwd, o2⟩ : ∃ wd : Int, wd = (bl d).getD 3 0 * 256 + (bl d).getD 4 0 ∧ bits .or .i64 ((d[3].toNat : Int) * (256 : Int)) (d[4].toNat : Int) = wd :=
            ⟨_, rfl, by rw [← V3.out, ← V4.out]; exact or_i64 _ _ r3a r3b r4a r4b⟩
          rw [o1, o2]
          rw [← hht, ← hwd] at HSP2
          obtain ⟨n, hn5⟩ : ∃ n : Nat, n = d[5].toNat := ⟨_, rfl⟩
          rw [← hn5] at HSP2
          have HN := Lib.hid hn5
          have hn255 : n ≤ 255 := by omega
          clear V1 V2 V3 V4 HV5 HV0 o1 o2 hht hwd hn5
          obtain ⟨w1, hw1⟩ : ∃ w1, w1 = (w.alloc (.cells #[.int .u8 code, .int .i64 wd, .int .i64 ht, .slice none 0 0] 26)).drew := ⟨_, rfl⟩
          rw [← hw1]
          have hb1 : Blk w1 w.heap.size 26 #[.int .u8 code, .int .i64 wd, .int .i64 ht, .slice none 0 0] := by
            rw [hw1]; exact (Blk.new _ _ _).drew
          have hk1 : Kp Nn w w1 := by
            rw [hw1]; exact ((Kp.refl _ _).alloc _).drew
          clear hw1 r1a r1b r2a r2b r3a r3b r4a r4b i5a i5b hl2'
          go_loopw [6] (fun i wr => ∃ (k : Nat) (m : Nat) (fv : Value), k ≤ n ∧ i = .int .i64 m ∧ m = 6 + 3 * k ∧ Blk wr w.heap.size 26 #[.int .u8 code, .int .i64 wd, .int .i64 ht, fv] ∧
              wr.ownsRow w.heap.size 121 4 fv k (cmsCells (cmTo (bl d) 6 k)) ∧ Kp Nn w wr) (fun i _ => d.size - (intOf i).toNat)
          case atStart => exact ⟨0, 6, _, by omega, rfl, by omega, hb1, World.ownsRow_nil _ _ _ _, hk1⟩
          case round =>
            as_aux_lemma =>
            obtain ⟨k, m, fv, hk, rfl, hm, hblk, hown, hkp⟩ := hrel
            by_cases hlt : k < n
            · have HM := Lib.hid hm
              have hsz := HL2.out
              rw [← HN.out] at hsz
              have hc3 : wr.cell? ⟨w.heap.size, 3, none⟩ = some fv := by rw [hblk.cell]; rfl
              have hf3 := hblk.frozen 3
              have hgl := hblk.lt
              have hfv : fv.ownBlock ≠ some w.heap.size := own_blk_ne hown hblk (by decide)
              have hown' := hown
              have HO := Lib.hid hown
              have m0 : (0 : Int) ≤ (m : Int) := by omega
              have m0' : (m : Int) < (d.size : Int) := by omega
              have m1 : IntKind.i64.wrap ((m : Int) + 1) = ((m + 1 : Nat) : Int) := by
                rw [IntWalk.i64_in _ (by omega)]; omega
              have m1a : (0 : Int) ≤ ((m + 1 : Nat) : Int) := by omega
              have m1b : ((m + 1 : Nat) : Int) < (d.size : Int) := by omega
              have m2 : IntKind.i64.wrap ((m : Int) + 2) = ((m + 2 : Nat) : Int) := by
                rw [IntWalk.i64_in _ (by omega)]; omega
              have m2a : (0 : Int) ≤ ((m + 2 : Nat) : Int) := by omega
              have m2b : ((m + 2 : Nat) : Int) < (d.size : Int) := by omega
              obtain ⟨p, hp1⟩ : ∃ p, p = m + 1 := ⟨_, rfl⟩
              obtain ⟨q, hq1⟩ : ∃ q, q = m + 2 := ⟨_, rfl⟩
              rw [← hp1] at m1 m1a m1b
              rw [← hq1] at m2 m2a m2b
              have tm : ((m : Int)).toNat = m := by omega
              have tp : ((p : Int)).toNat = p := by omega
              have tq : ((q : Int)).toNat = q := by omega
              have lm : m < d.size := by omega
              have lp : p < d.size := by omega
              have lq : q < d.size := by omega
              have rp := bl_range d p
              have rm := bl_range d m
              have rq := bl_range d q
              obtain ⟨ym, vm⟩ : ∃ y, y = (bl d).getD m 0 := ⟨_, rfl⟩
              obtain ⟨yp, vp⟩ : ∃ y, y = (bl d).getD p 0 := ⟨_, rfl⟩
              obtain ⟨yq, vq⟩ : ∃ y, y = (bl d).getD q 0 := ⟨_, rfl⟩
              have gm : (d[m].toNat : Int) = ym := (bl_get d m lm).trans vm.symm
              have gp : (d[p].toNat : Int) = yp := (bl_get d p lp).trans vp.symm
              have gq : (d[q].toNat : Int) = yq := (bl_get d q lq).trans vq.symm
              rw [← vm] at rm
              rw [← vp] at rp
              rw [← vq] at rq
              obtain ⟨rpa, rpb⟩ := rp
              obtain ⟨rma, rmb⟩ := rm
              obtain ⟨rqa, rqb⟩ := rq
              obtain ⟨yl, hyl⟩ : ∃ y, bits .and .u8 yp 15 = y := ⟨_, rfl⟩
              have HYL : Hid (yl = yp % 16) := hyl.symm.trans (and15 yp rpa rpb)
              have VM := Lib.hid vm
              have VP := Lib.hid vp
              have VQ := Lib.hid vq
              have hP := Lib.hid hp1
              have hQ := Lib.hid hq1
              have HB := Lib.hid hblk
              clear vm vp vq hown' hown hp1 hq1 hm hblk hsz
              obtain ⟨i0, hi0, hz0, hz1, hz2⟩ := comp_info
              have HYH : True := trivial
              have hkb : k ≤ 255 := by
                have := HN.out
                omega
              obtain ⟨hap, gg, cap, w5, hapv, hapw, hown2, hkg, hat, hlt2⟩ := ap_one (P := Tryd.prog) wr 24 w.heap.size 121 i0 _ 4 4 Tryd.underlying24 hi0 hz0 hz1 hz2 (by rfl) (by omega) fv k (cmsCells (cmTo (bl d) 6 k)) HO.out
                #[.int .u8 ym, .int .u8 (yp / 16), .int .u8 yl, .int .u8 yq] rfl (by simp [Value.oneCell']) (by simp [maxLen]; omega) (by omega) (by omega)
              have hw2c : w5.cell? ⟨w.heap.size, 3, none⟩ = some fv := hkg.cell' hc3 (by simpa using hfv)
              have hw2f : w5.frozen? ⟨w.heap.size, 3, none⟩ = false := (hkg.frozen (p := ⟨w.heap.size, 3, none⟩) hgl (by simpa using hfv)).trans hf3
              go_wp2
              have hsx : ∀ x : SW (fun w' => w'.cell? ⟨w.heap.size, 3, none⟩ = some fv), x.w.cell? ⟨w.heap.size, 3, none⟩ = some fv := fun x => x.h
              have hsn : Nonempty (SW (fun w' => w'.cell? ⟨w.heap.size, 3, none⟩ = some fv)) := ⟨⟨wr, hc3⟩⟩
              refine wp_region_mix (fun w' => w'.cell? ⟨w.heap.size, 3, none⟩ = some fv) 23
                [(0, true), (1, true), (2, true), (3, true), (4, true), (5, true), (6, true), (7, true), (8, true), (9, true), (10, true), (11, true), (12, true), (13, true), (14, true), (15, true), (16, true), (17, true), (18, true), (19, true), (20, false), (21, false), (22, false), (23, false)]
                (fun l => l) (by kernel_rfl) (by kernel_rfl) (by kernel_rfl) hc3 ?_
              refine wpMix_rd 20 _ _ _ _ (by kernel_rfl) (by decide) (by decide) ?_
              simp only [List.take_succ_cons, List.take_zero, List.drop_succ_cons, List.drop_zero]
              intro N hN
              repeat (go_big_quiet_step (fail))
              refine wpQuiet_nil (hN _ ?_)
              clear hN N
              refine wpMix_act rfl ?_
              intro N hN
              go_wp2
              refine hN _ _ ?_ ?_
              · exact (World.cell?_alloc_lt wr _ ⟨w.heap.size, 3, none⟩ hgl).trans hc3
              clear hN N
              refine wpMix_act rfl ?_
              intro N hN
              go_wp2
              refine hN _ _ hw2c ?_
              clear hN N
              refine wpMix_act rfl ?_
              intro N hN
              go_wp2
              refine hN _ _ hw2c ?_
              clear hN N
              refine wpMix_last rfl ?_
              intro N hN
              go_wp2
              go_roundw
              case rel =>
                have hne : w.heap.size ≠ gg := by
                  rcases hat with h | h
                  · exact fun e => hfv (by rw [h, e])
                  · omega
                refine ⟨k + 1, m + 3, _, by omega, by go_num, by have := HM.out; omega, (HB.out.kp hkg (by simpa using hfv)).set_ 3 _, ?_, ?_⟩
                · rw [cmTo_succ, cmsCells_snoc]
                  have e : cmCells (cmAt (bl d) 6 k) = [.int .u8 ym, .int .u8 (yp / 16), .int .u8 yl, .int .u8 yq] := by
                    have e1 : 6 + 3 * k = m := HM.out.symm
                    have e2 : m + 1 = p := hP.out.symm
                    have e3 : m + 2 = q := hQ.out.symm
                    simp only [cmCells, cmAt]
                    rw [e1, e2, e3, ← VM.out, ← VP.out, ← VQ.out, HYL.out]
                  rw [e]
                  exact ownsRow_setCell_other hown2 (by simp [Value.ownBlock]; omega) _
                · refine Kp.comp (S2 := fun i => i = w.heap.size ∨ fv.ownBlock = some i) hkp ((hkg.mono (fun i _ h => .inr h)).setCell (.inl (.inl rfl)) _) ?_
                  intro i hi h
                  rcases h with h | h | h
                  · exact h
                  · omega
                  · have := (HO.out.lt _ h).1
                    omega
              case measure => simp [intOf]; omega
            · have hkn : k = n := by omega
              subst hkn
              clear hlt
              obtain ⟨A, c, rfl, hnc, hcm, hrd⟩ := Rd.own hown
              have hc0' : wr.cell? ⟨w.heap.size, 0, none⟩ = some (.int .u8 code) := by rw [hblk.cell]; rfl
              have hc1' : wr.cell? ⟨w.heap.size, 1, none⟩ = some (.int .i64 wd) := by rw [hblk.cell]; rfl
              have hc2' : wr.cell? ⟨w.heap.size, 2, none⟩ = some (.int .i64 ht) := by rw [hblk.cell]; rfl
              have hc3' : wr.cell? ⟨w.heap.size, 3, none⟩ = some (.slice A k c) := by rw [hblk.cell]; rfl
              have HRD := Lib.hid hrd
              have HO := Lib.hid hown
              have HB := Lib.hid hblk
              have HM := Lib.hid hm
              have hge : (d.size : Int) ≤ (m : Int) := by
                have h1 := HL2.out
                have h2 := HN.out
                omega
              clear hown hblk hrd hm
              have hok : ∀ x ∈ cmTo (bl d) 6 k, CmOk x := by
                intro x hx
                simp only [cmTo, List.mem_map, List.mem_range] at hx
                obtain ⟨j, _, rfl⟩ := hx
                exact cmAt_ok _ HR.out _ _
              have hfc := framed_c wr wr.heap.size ⟨code, wd, ht, cmTo (bl d) 6 k⟩ A c (by simpa [cmTo_len] using HRD.out) (by simp [cmTo_len, maxLen]; omega) (by simpa [cmTo_len] using hnc) hok (Nat.le_refl _)
              simp only [frVal, cmTo_len] at hfc
              have HFC := Lib.hid hfc
              clear hfc hok
              go_wp2_with fail
              refine HFC.out.mono ?_
              rintro e w2 ⟨rfl, hk2⟩
              clear HFC
              obtain ⟨fs, hfs⟩ : ∃ fs, fs = framedS ⟨code, wd, ht, cmTo (bl d) 6 k⟩ := ⟨_, rfl⟩
              rw [← hfs] at HSP2 ⊢
              clear hfs
              have hkw := hkp.trans hk2
              by_cases hf0 : fs = 0
              · have hq0 : (fs != 0) = false := by simp [hf0]
                have HE : Hid (rdFrame code (bl d) = .ok ⟨code, wd, ht, cmTo (bl d) 6 k⟩) := by rw [HSP2.out, if_neg (by simp [hf0])]; exact Lib.hid rfl
                have hb2 := HB.out.kp hk2 (fun h => h)
                have hg2 := HSG.out.kp hkw (fun h => h)
                have b0 : w2.cell? ⟨w.heap.size, 0, none⟩ = some (.int .u8 code) := by rw [hb2.cell]; rfl
                have b1 : w2.cell? ⟨w.heap.size, 1, none⟩ = some (.int .i64 wd) := by rw [hb2.cell]; rfl
                have b2 : w2.cell? ⟨w.heap.size, 2, none⟩ = some (.int .i64 ht) := by rw [hb2.cell]; rfl
                have b3 : w2.cell? ⟨w.heap.size, 3, none⟩ = some (.slice A k c) := by rw [hb2.cell]; rfl
                have g5 : w2.cell? ⟨gs, 5, none⟩ = some c5 := by rw [hg2.cell]; rfl
                have g6 : w2.cell? ⟨gs, 6, none⟩ = some c6 := by rw [hg2.cell]; rfl
                have g7 : w2.cell? ⟨gs, 7, none⟩ = some c7 := by rw [hg2.cell]; rfl
                have g8 : w2.cell? ⟨gs, 8, none⟩ = some c8 := by rw [hg2.cell]; rfl
                have f5 := hg2.frozen 5
                have f6 := hg2.frozen 6
                have f7 := hg2.frozen 7
                have f8 := hg2.frozen 8
                have HB2 := Lib.hid hb2
                have HG2 := Lib.hid hg2
                clear hf0 hb2 hg2 HSP2 hc0' hc1' hc2' hc3' hsg0
                go_wp2
                go_ret
                rw [HE.out]
                have hkz : Kp (fun i => i = gs) w w2 := hkw.mono (fun _ _ h => h.elim)
                have k5 := hkz.setCell (p := ⟨gs, 5, none⟩) (.inl rfl) (.int .u8 code)
                have k6 := k5.setCell (p := ⟨gs, 6, none⟩) (.inl rfl) (.int .i64 wd)
                have k7 := k6.setCell (p := ⟨gs, 7, none⟩) (.inl rfl) (.int .i64 ht)
                have k8 := k7.setCell (p := ⟨gs, 8, none⟩) (.inl rfl) (.slice A k c)
                have hne : (Value.slice A k c).ownBlock ≠ some gs := fun h => by
                  have := (HO.out.lt _ h).1
                  omega
                have ho2 := own_kp HO.out hk2 (fun _ _ h => h)
                have o5 := ownsRow_setCell_other ho2 (a := ⟨gs, 5, none⟩) hne (.int .u8 code)
                have o6 := ownsRow_setCell_other o5 (a := ⟨gs, 6, none⟩) hne (.int .i64 wd)
                have o7 := ownsRow_setCell_other o6 (a := ⟨gs, 7, none⟩) hne (.int .i64 ht)
                have o8 := ownsRow_setCell_other o7 (a := ⟨gs, 8, none⟩) hne (.slice A k c)
                have b8 := (((HG2.out.set_ 5 (.int .u8 code)).set_ 6 (.int .i64 wd)).set_ 7 (.int .i64 ht)).set_ 8 (.slice A k c)
                refine (⟨rfl, k8, .slice A k c, ?_, b8⟩ : FramePost w gs (fun a b c x => #[.int .u8 code, c1, c2, c3, c4, a, b, c, x, c9, c10, c11, c12]) (.ok ⟨code, wd, ht, cmTo (bl d) 6 k⟩) (.returned (.int .i64 0)) _)
                show World.ownsRow _ _ _ _ _ (cmTo (bl d) 6 k).length _
                rw [cmTo_len]
                exact o8
              · have hq0 : (fs != 0) = true := by simp [hf0]
                have HE : Hid (rdFrame code (bl d) = .error fs) := by rw [HSP2.out, if_pos hf0]; exact Lib.hid rfl
                clear hf0
                go_wp2
                go_ret
                rw [HE.out]
                exact ⟨rfl, hkw.mono (fun _ _ h => h.elim)⟩
      · have HE : Hid (rdFrame code (bl d) = .error 158) := by
          rw [HSP.out, if_pos (by rw [← HV0.out]; exact hp)]; exact Lib.hid rfl
        have hp' : ((d[0].toNat : Int) != 8) = true := by simp; omega
        clear HSP
        go_enter Tryd.func74, Tryd.ntmps74
        go_wp2
        go_ret
        rw [HE.out]
        exact ⟨rfl, (Kp.refl _ _)⟩
    · have hspec : rdFrame code (bl d) = .error 152 := by
        unfold rdFrame
        rw [if_pos (.inr (by rw [bl_length, ← hv5]; omega))]
      have HSP := Lib.hid hspec
      clear hspec hv5 hr5
      go_enter Tryd.func74, Tryd.ntmps74
      go_wp2
      go_ret
      rw [HSP.out]
      exact ⟨rfl, (Kp.refl _ _)⟩
end Go.Proofs.YtnpkpikoeijdcaaDoor
