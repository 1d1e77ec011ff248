/- Contracts: segment.Read$1 and segment.Read. -/
import Derived.Test.YtnpkpikoeijdcaaDoorCi
import Derived.Test.YtnpkpikoeijdcaaDoorAs
import Derived.Laws.ResultCell
set_option linter.unusedVariables false
set_option linter.unusedSimpArgs false
namespace Go.Proofs.YtnpkpikoeijdcaaDoor
open Go Go.RowKit

def sgZ : Array Value := #[.int .u8 0, .int .i64 0, .int .i64 0, .slice none 0 0, .slice none 0 0, .int .u8 0, .int .i64 0, .int .i64 0, .slice none 0 0, .slice none 0 0, .slice none 0 0, .int .i64 0, .string ⟨#[]⟩]
/-- A fault behind a pointer, and the empty segment. -/
def FailPost (w : World) (code place : Int) (e : Ending) (w' : World) : Prop :=
  ∃ g, e = .returned (.tuple #[.agg sgZ, .iface 105 (.pointer (some ⟨g, 0, none⟩))]) ∧ Blk w' g 44 #[.int .i64 code, .int .i64 place] ∧ w.heap.size ≤ g ∧ Kp Nn w w'

set_option maxHeartbeats 400000 in
theorem fail_c (w : World) (code place : Int) : Calls Tryd.prog 47 #[.int .i64 code, .int .i64 place] w fun e w' => FailPost w code place e w' := by
  go_enter Tryd.func47, Tryd.ntmps47
  go_wp2
  refine bodyPost_ret (v := .tuple #[.agg sgZ, .iface 105 (.pointer (some ⟨w.heap.size + 1, 0, none⟩))]) (by simp [results, Tryd.results47, go_sem, sgZ]) rfl ⟨w.heap.size + 1, rfl, ?_, by omega, ((Kp.refl _ _).alloc _).alloc _⟩
  have := Blk.new (w.alloc (.cells sgZ 30)) 44 #[.int .i64 code, .int .i64 place]
  simpa [sgZ] using this

theorem ty_seg : AggTy Tryd.prog 30 13 := by show aggOk _ _ _ = true; kernel_rfl
theorem sg_load : type_of% (@ex_load Tryd.prog 30 13 ty_seg) := @ex_load Tryd.prog 30 13 ty_seg
theorem sg_store : type_of% (@ex_store Tryd.prog 30 13 ty_seg) := @ex_store Tryd.prog 30 13 ty_seg
theorem okSt_blk {w : World} {g t n : Nat} {c a : Array Value} (h : Blk w g t c) (hc : c.size = n) (ha : a.size = n) (hall : ∀ v ∈ a.toList, v.oneCell' = true) : okSt w g 0 n a = true := by
  unfold okSt
  rw [h.okRow 0 n (by omega), Bool.true_and, Bool.and_eq_true, decide_eq_true_eq]
  exact ⟨ha, Array.all_eq_true_iff_forall_mem.2 (fun v hv => hall v (by simpa using hv))⟩
theorem sgZ_size : sgZ.size = 13 := rfl
theorem sgZ_one : ∀ v ∈ sgZ.toList, v.oneCell' = true := by simp [sgZ, Value.oneCell']
theorem SgV.size {w : World} {base : Nat} {s : Sg} {cs : Array Value} (h : SgV w base s cs) : cs.size = 13 := by
  obtain ⟨_, _, _, _, _, _, _, _, rfl, _⟩ := h; rfl
theorem own_one {w : World} {base : Nat} {e : TypeId} {size n : Nat} {v : Value} {xs : List Value} (h : w.ownsRow base e size v n xs) : v.oneCell' = true := by
  obtain ⟨_, ⟨rfl, _⟩ | ⟨g, cap, cur, rfl, _⟩⟩ := h <;> rfl
theorem own_form {w : World} {base : Nat} {e : TypeId} {size n : Nat} {v : Value} {xs : List Value} (h : w.ownsRow base e size v n xs) : ∃ A m c, v = .slice A m c := by
  obtain ⟨_, ⟨rfl, _⟩ | ⟨g, cap, cur, rfl, _⟩⟩ := h <;> exact ⟨_, _, _, rfl⟩
theorem SgV.one {w : World} {base : Nat} {s : Sg} {cs : Array Value} (h : SgV w base s cs) : ∀ v ∈ cs.toList, v.oneCell' = true := by
  obtain ⟨_, _, _, _, _, _, _, _, rfl, _, h1, _, h2, _, h3, h4, h5⟩ := h
  obtain ⟨_, _, _, rfl⟩ := own_form h1
  obtain ⟨_, _, _, rfl⟩ := own_form h2
  obtain ⟨_, _, _, rfl⟩ := own_form h3
  obtain ⟨_, _, _, rfl⟩ := own_form h4
  obtain ⟨_, _, _, rfl⟩ := own_form h5
  simp [Value.oneCell']
theorem seg_results (w : World) (tmps : Array Value) (R : Nat) (cs : Array Value) (err : Value) (h4 : tmps.getD 4 undef = .pointer (some ⟨R, 0, none⟩)) (h5 : tmps.getD 5 undef = err) (hb : Blk w R 30 cs) (hs : cs.size = 13) :
    (results Tryd.f14 tmps).run Tryd.prog w = .ok (.tuple #[.agg cs, err]) w := by
  have hl := run_loadVar_agg ty_seg w R 0 cs.toList (by simp [hs]) (fun j v hv => by rw [hb.cell]; simpa using hv)
  simp only [Array.toArray_toList] at hl
  rw [results_cell_tmp Tryd.results14, h4, h5]
  simp only [asAddr, Sem.run_pure, Result.andThen_ok, hl]

theorem SgV.kp {S : Nat → Prop} {w w' : World} {base : Nat} {s : Sg} {cs : Array Value} (h : SgV w base s cs) (hk : Kp S w w') (hS : ∀ i, S i → i < base) (hnb : NoB w S) : SgV w' base s cs := by
  obtain ⟨qv, hv, fv, pv, iv, qcs, hcs, ds, e, hd, h1, v1, h2, v2, h3, h4, h5⟩ := h
  have key : ∀ {e : TypeId} {size n : Nat} {v : Value} {xs : List Value}, w.ownsRow base e size v n xs → w'.ownsRow base e size v n xs := fun ho => own_kp ho hk (fun g hg hSg => by
    have := (ho.lt _ hg).1
    have := hS _ hSg
    omega)
  exact ⟨qv, hv, fv, pv, iv, qcs, hcs, ds, e, hd, key h1, v1.mono (fun a c h => h.kp hk hnb), key h2, v2.mono (fun a c h => h.kp hk hnb), key h3, key h4, key h5⟩
theorem SgV.base_ {w : World} {base base' : Nat} {s : Sg} {cs : Array Value} (h : SgV w base s cs) (hb : base' ≤ base) : SgV w base' s cs := by
  obtain ⟨qv, hv, fv, pv, iv, qcs, hcs, ds, e, hd, h1, v1, h2, v2, h3, h4, h5⟩ := h
  exact ⟨qv, hv, fv, pv, iv, qcs, hcs, ds, e, hd, own_mono h1 hb, v1, own_mono h2 hb, v2, own_mono h3 hb, own_mono h4 hb, own_mono h5 hb⟩
def outS (k : Int) : Except Int Sg → Except (Int × Int) Sg
  | .error e => if e = 152 then .error (152, k + 2) else .error (e, k)
  | .ok s => .ok s
def ReadPost (w : World) (r : Except (Int × Int) Sg) (e : Ending) (w' : World) : Prop :=
  match r with
  | .error (c, p) => FailPost w c p e w'
  | .ok s => ∃ cs, e = .returned (.tuple #[.agg cs, .nilIface]) ∧ SgV w' w.heap.size s cs ∧ Kp Nn w w'

set_option maxHeartbeats 4000000 in
set_option maxRecDepth 100000 in
attribute [local go_sem ↓] sg_load sg_store in
theorem read_c (w : World) (f : ByteArray) (hf : f.size ≤ 140737488351232) (a : Int) (hE : ErrT w) : Calls Tryd.prog 14 #[.string f, .int .i64 a] w fun e w' => ReadPost w (readS (bl f) a) e w' := by
  have HE0 := Lib.hid hE
  have HLEN := Lib.hid (bl_length f)
  have hZ1 : Blk (w.alloc (.cells sgZ 30)) w.heap.size 30 sgZ := Blk.new _ _ _
  have HZ1 := Lib.hid hZ1
  have HK1 : Hid (Kp Nn w (w.alloc (.cells sgZ 30))) := (Kp.refl _ _).alloc _
  by_cases h : a < 0 ∨ (f.size : Int) < a
  · have hsp : readS (bl f) a = .error (3, a) := by
      unfold readS; simp only [HLEN.out]; rw [if_pos h]
    have HSP := Lib.hid hsp
    clear hsp
    rcases h with h | h
    all_goals
      go_enter Tryd.func14, Tryd.ntmps14
      go_wp2_with fail
      (with_reducible refine (fail_c _ _ _).mono ?_)
      rintro e w2 ⟨g, rfl, hg, hgs, hk2⟩
      have hz2 : Blk w2 w.heap.size 30 sgZ := HZ1.out.kp hk2 (fun h => h)
      have hgs' : w.heap.size + 1 ≤ g := by simpa using hgs
      have hst := okSt_blk hz2 sgZ_size sgZ_size sgZ_one
      have HG := Lib.hid hg
      have HZ2 := Lib.hid hz2
      clear hg hz2 hgs
      go_wp2
      refine bodyPost_ret (v := .tuple #[.agg sgZ, .iface 105 (.pointer (some ⟨g, 0, none⟩))]) (seg_results _ _ w.heap.size sgZ _ rfl rfl (HZ2.out.wrRowAll _ rfl) sgZ_size) rfl ?_
      rw [HSP.out]
      exact (⟨g, rfl, HG.out.wrRowFar (by omega) _ _, by omega, (HK1.out.trans hk2).wrRow (.inr (Nat.le_refl _)) _ _⟩ : FailPost w _ _ _ _)
  have ha0 : 0 ≤ a := by omega
  obtain ⟨k, rfl⟩ := Int.eq_ofNat_of_zero_le ha0
  have hkn : (k : Int) ≤ (f.size : Int) := by omega
  have H1 := Lib.hid h
  clear h
  by_cases hk : (k : Int) < (f.size : Int)
  case neg =>
    have H2 : Hid (¬ ((k : Int) < (f.size : Int) ∧ (bl f).getD k 0 ≠ 255)) := by
      have : ¬ ((k : Int) < (f.size : Int) ∧ (bl f).getD k 0 ≠ 255) := fun h => hk h.1
      exact Lib.hid this
    have hd : ((f.size : Int) - (k : Int)) < 2 := by omega
    have HSP : Hid (readS (bl f) (k : Int) = .error (44, (f.size : Int))) := by
      unfold readS
      simp only [HLEN.out, Int.toNat_natCast]
      rw [if_neg H1.out, if_neg H2.out, if_pos (by omega)]
      exact Lib.hid rfl
    go_enter Tryd.func14, Tryd.ntmps14
    go_wp2_with fail
    (with_reducible refine (fail_c _ _ _).mono ?_)
    rintro e w2 ⟨g, rfl, hg, hgs, hk2⟩
    have hz2 : Blk w2 w.heap.size 30 sgZ := HZ1.out.kp hk2 (fun h => h)
    have hgs' : w.heap.size + 1 ≤ g := by simpa using hgs
    have hst := okSt_blk hz2 sgZ_size sgZ_size sgZ_one
    have HG := Lib.hid hg
    have HZ2 := Lib.hid hz2
    clear hg hz2 hgs
    go_wp2
    refine bodyPost_ret (v := .tuple #[.agg sgZ, .iface 105 (.pointer (some ⟨g, 0, none⟩))]) (seg_results _ _ w.heap.size sgZ _ rfl rfl (HZ2.out.wrRowAll _ rfl) sgZ_size) rfl ?_
    rw [HSP.out]
    exact (⟨g, rfl, HG.out.wrRowFar (by omega) _ _, by omega, (HK1.out.trans hk2).wrRow (.inr (Nat.le_refl _)) _ _⟩ : FailPost w _ _ _ _)
  have hkl : k < f.size := by omega
  have tk : ((k : Int)).toNat = k := by omega
  obtain ⟨y0, v0⟩ : ∃ y, y = (bl f).getD k 0 := ⟨_, rfl⟩
  have g0 : (f[k].toNat : Int) = y0 := (bl_get f k hkl).trans v0.symm
  have V0 := Lib.hid v0
  clear v0
  by_cases h2 : y0 = 255
  case neg =>
    have b2 : (y0 != 255) = true := by simpa using h2
    have HSP : Hid (readS (bl f) (k : Int) = .error (151, (k : Int))) := by
      unfold readS
      simp only [HLEN.out, Int.toNat_natCast]
      rw [if_neg H1.out, if_pos (⟨hk, by rw [← V0.out]; exact h2⟩)]
      exact Lib.hid rfl
    clear h2
    go_enter Tryd.func14, Tryd.ntmps14
    go_wp2_with fail
    (with_reducible refine (fail_c _ _ _).mono ?_)
    rintro e w2 ⟨g, rfl, hg, hgs, hk2⟩
    have hz2 : Blk w2 w.heap.size 30 sgZ := HZ1.out.kp hk2 (fun h => h)
    have hgs' : w.heap.size + 1 ≤ g := by simpa using hgs
    have hst := okSt_blk hz2 sgZ_size sgZ_size sgZ_one
    have HG := Lib.hid hg
    have HZ2 := Lib.hid hz2
    clear hg hz2 hgs
    go_wp2
    refine bodyPost_ret (v := .tuple #[.agg sgZ, .iface 105 (.pointer (some ⟨g, 0, none⟩))]) (seg_results _ _ w.heap.size sgZ _ rfl rfl (HZ2.out.wrRowAll _ rfl) sgZ_size) rfl ?_
    rw [HSP.out]
    exact (⟨g, rfl, HG.out.wrRowFar (by omega) _ _, by omega, (HK1.out.trans hk2).wrRow (.inr (Nat.le_refl _)) _ _⟩ : FailPost w _ _ _ _)
  have b2 : (y0 != 255) = false := by simpa using h2
  have H2 : Hid (¬ ((k : Int) < (f.size : Int) ∧ (bl f).getD k 0 ≠ 255)) := by
    have : ¬ ((k : Int) < (f.size : Int) ∧ (bl f).getD k 0 ≠ 255) := fun h => h.2 (by rw [← V0.out]; exact h2)
    exact Lib.hid this
  clear h2
  by_cases h3 : ((f.size : Int) - (k : Int)) < 2
  · have HSP : Hid (readS (bl f) (k : Int) = .error (44, (f.size : Int))) := by
      unfold readS
      simp only [HLEN.out, Int.toNat_natCast]
      rw [if_neg H1.out, if_neg H2.out, if_pos (h3)]
      exact Lib.hid rfl
    go_enter Tryd.func14, Tryd.ntmps14
    go_wp2_with fail
    (with_reducible refine (fail_c _ _ _).mono ?_)
    rintro e w2 ⟨g, rfl, hg, hgs, hk2⟩
    have hz2 : Blk w2 w.heap.size 30 sgZ := HZ1.out.kp hk2 (fun h => h)
    have hgs' : w.heap.size + 1 ≤ g := by simpa using hgs
    have hst := okSt_blk hz2 sgZ_size sgZ_size sgZ_one
    have HG := Lib.hid hg
    have HZ2 := Lib.hid hz2
    clear hg hz2 hgs
    go_wp2
    refine bodyPost_ret (v := .tuple #[.agg sgZ, .iface 105 (.pointer (some ⟨g, 0, none⟩))]) (seg_results _ _ w.heap.size sgZ _ rfl rfl (HZ2.out.wrRowAll _ rfl) sgZ_size) rfl ?_
    rw [HSP.out]
    exact (⟨g, rfl, HG.out.wrRowFar (by omega) _ _, by omega, (HK1.out.trans hk2).wrRow (.inr (Nat.le_refl _)) _ _⟩ : FailPost w _ _ _ _)
  have hk1 : (k : Int) + 1 < (f.size : Int) := by omega
  have hk1l : k + 1 < f.size := by omega
  have tk1 : ((k : Int) + 1).toNat = k + 1 := by omega
  obtain ⟨y1, v1⟩ : ∃ y, y = (bl f).getD (k + 1) 0 := ⟨_, rfl⟩
  have g1 : (f[k + 1].toNat : Int) = y1 := (bl_get f (k + 1) hk1l).trans v1.symm
  have r1 := bl_range f (k + 1)
  rw [← v1] at r1
  obtain ⟨r1a, r1b⟩ := r1
  have hrf := fun w0 => refused_c w0 y1 r1a r1b
  obtain ⟨rf, vrf⟩ : ∃ r, r = refusedS y1 := ⟨_, rfl⟩
  rw [← vrf] at hrf
  have HRF := Lib.hid hrf
  have VRF : Hid (rf = refusedS ((bl f).getD (k + 1) 0)) := by rw [← v1]; exact Lib.hid vrf
  have V1 := Lib.hid v1
  have H3 := Lib.hid h3
  clear v1 vrf hrf
  by_cases h4 : rf = 0
  case neg =>
    have b4 : (rf != 0) = true := by simpa using h4
    have HSP : Hid (readS (bl f) (k : Int) = .error (rf, (k : Int))) := by
      unfold readS
      simp only [HLEN.out, Int.toNat_natCast]
      rw [if_neg H1.out, if_neg H2.out, if_neg H3.out, ← VRF.out, if_pos h4]
      exact Lib.hid rfl
    clear h4
    go_enter Tryd.func14, Tryd.ntmps14
    go_wp2_with fail
    (with_reducible refine (HRF.out _).mono ?_)
    rintro e w2 ⟨rfl, rfl⟩
    go_wp2_with fail
    (with_reducible refine (fail_c _ _ _).mono ?_)
    rintro e w2 ⟨g, rfl, hg, hgs, hk2⟩
    have hz2 : Blk w2 w.heap.size 30 sgZ := HZ1.out.kp hk2 (fun h => h)
    have hgs' : w.heap.size + 1 ≤ g := by simpa using hgs
    have hst := okSt_blk hz2 sgZ_size sgZ_size sgZ_one
    have HG := Lib.hid hg
    have HZ2 := Lib.hid hz2
    clear hg hz2 hgs
    go_wp2
    refine bodyPost_ret (v := .tuple #[.agg sgZ, .iface 105 (.pointer (some ⟨g, 0, none⟩))]) (seg_results _ _ w.heap.size sgZ _ rfl rfl (HZ2.out.wrRowAll _ rfl) sgZ_size) rfl ?_
    rw [HSP.out]
    exact (⟨g, rfl, HG.out.wrRowFar (by omega) _ _, by omega, (HK1.out.trans hk2).wrRow (.inr (Nat.le_refl _)) _ _⟩ : FailPost w _ _ _ _)
  have b4 : (rf != 0) = false := by simpa using h4
  have H4 : Hid (¬ (refusedS ((bl f).getD (k + 1) 0) ≠ 0)) := by
    have : ¬ (refusedS ((bl f).getD (k + 1) 0) ≠ 0) := fun h => h (by rw [← VRF.out]; exact h4)
    exact Lib.hid this
  clear h4
  by_cases h5 : ((f.size : Int) - (k : Int)) < 4
  · have HSP : Hid (readS (bl f) (k : Int) = .error (44, (f.size : Int))) := by
      unfold readS
      simp only [HLEN.out, Int.toNat_natCast]
      rw [if_neg H1.out, if_neg H2.out, if_neg H3.out, if_neg H4.out, if_pos (h5)]
      exact Lib.hid rfl
    go_enter Tryd.func14, Tryd.ntmps14
    go_wp2_with fail
    (with_reducible refine (HRF.out _).mono ?_)
    rintro e w2 ⟨rfl, rfl⟩
    go_wp2_with fail
    (with_reducible refine (fail_c _ _ _).mono ?_)
    rintro e w2 ⟨g, rfl, hg, hgs, hk2⟩
    have hz2 : Blk w2 w.heap.size 30 sgZ := HZ1.out.kp hk2 (fun h => h)
    have hgs' : w.heap.size + 1 ≤ g := by simpa using hgs
    have hst := okSt_blk hz2 sgZ_size sgZ_size sgZ_one
    have HG := Lib.hid hg
    have HZ2 := Lib.hid hz2
    clear hg hz2 hgs
    go_wp2
    refine bodyPost_ret (v := .tuple #[.agg sgZ, .iface 105 (.pointer (some ⟨g, 0, none⟩))]) (seg_results _ _ w.heap.size sgZ _ rfl rfl (HZ2.out.wrRowAll _ rfl) sgZ_size) rfl ?_
    rw [HSP.out]
    exact (⟨g, rfl, HG.out.wrRowFar (by omega) _ _, by omega, (HK1.out.trans hk2).wrRow (.inr (Nat.le_refl _)) _ _⟩ : FailPost w _ _ _ _)
  have H5 := Lib.hid h5
  have hk2 : (k : Int) + 2 < (f.size : Int) := by omega
  have hk2l : k + 2 < f.size := by omega
  have tk2 : ((k : Int) + 2).toNat = k + 2 := by omega
  have hk3 : (k : Int) + 3 < (f.size : Int) := by omega
  have hk3l : k + 3 < f.size := by omega
  have tk3 : ((k : Int) + 3).toNat = k + 3 := by omega
  obtain ⟨y2, v2⟩ : ∃ y, y = (bl f).getD (k + 2) 0 := ⟨_, rfl⟩
  have g2 : (f[k + 2].toNat : Int) = y2 := (bl_get f (k + 2) hk2l).trans v2.symm
  have r2 := bl_range f (k + 2)
  rw [← v2] at r2
  obtain ⟨r2a, r2b⟩ := r2
  obtain ⟨y3, v3⟩ : ∃ y, y = (bl f).getD (k + 3) 0 := ⟨_, rfl⟩
  have g3 : (f[k + 3].toNat : Int) = y3 := (bl_get f (k + 3) hk3l).trans v3.symm
  have r3 := bl_range f (k + 3)
  rw [← v3] at r3
  obtain ⟨r3a, r3b⟩ := r3
  obtain ⟨lg, vlg, olg⟩ : ∃ l : Int, l = y2 * 256 + y3 ∧ bits .or .i64 (y2 * 256) y3 = l := ⟨_, rfl, or_i64 _ _ r2a r2b r3a r3b⟩
  have hlga : 0 ≤ lg := by omega
  have hlgb : lg ≤ 65535 := by omega
  have VLG : Hid (lg = (bl f).getD (k + 2) 0 * 256 + (bl f).getD (k + 3) 0) := by rw [← v2, ← v3]; exact Lib.hid vlg
  have m2 : IntKind.i64.wrap ((k : Int) + 2) = (k : Int) + 2 := IntWalk.i64_in _ (by omega)
  have m3 : IntKind.i64.wrap ((k : Int) + 3) = (k : Int) + 3 := IntWalk.i64_in _ (by omega)
  have m2a : 0 ≤ (k : Int) + 2 := by omega
  have m3a : 0 ≤ (k : Int) + 3 := by omega
  have my : IntKind.i64.wrap (y2 * 256) = y2 * 256 := IntWalk.i64_in _ (by omega)
  clear v2 v3 vlg
  by_cases h6 : lg < 2
  · have HSP : Hid (readS (bl f) (k : Int) = .error (152, (k : Int) + 2)) := by
      unfold readS
      simp only [HLEN.out, Int.toNat_natCast]
      rw [if_neg H1.out, if_neg H2.out, if_neg H3.out, if_neg H4.out, if_neg H5.out, if_pos (by rw [← VLG.out]; exact h6)]
      exact Lib.hid rfl
    go_enter Tryd.func14, Tryd.ntmps14
    go_wp2_with fail
    (with_reducible refine (HRF.out _).mono ?_)
    rintro e w2 ⟨rfl, rfl⟩
    go_wp2_with fail
    go_quiet (fail)
    go_wp2_with fail
    (with_reducible refine (fail_c _ _ _).mono ?_)
    rintro e w2 ⟨g, rfl, hg, hgs, hk2⟩
    have hz2 : Blk w2 w.heap.size 30 sgZ := (HZ1.out.drewN nq).kp hk2 (fun h => h)
    have hgs' : w.heap.size + 1 ≤ g := by simpa using hgs
    have hst := okSt_blk hz2 sgZ_size sgZ_size sgZ_one
    have HG := Lib.hid hg
    have HZ2 := Lib.hid hz2
    clear hg hz2 hgs
    go_wp2
    refine bodyPost_ret (v := .tuple #[.agg sgZ, .iface 105 (.pointer (some ⟨g, 0, none⟩))]) (seg_results _ _ w.heap.size sgZ _ rfl rfl (HZ2.out.wrRowAll _ rfl) sgZ_size) rfl ?_
    rw [HSP.out]
    exact (⟨g, rfl, HG.out.wrRowFar (by omega) _ _, by omega, ((HK1.out.drewN nq).trans hk2).wrRow (.inr (Nat.le_refl _)) _ _⟩ : FailPost w _ _ _ _)
  have H6 : Hid (¬ ((bl f).getD (k + 2) 0 * 256 + (bl f).getD (k + 3) 0 < 2)) := by rw [← VLG.out]; exact Lib.hid h6
  by_cases h7 : (f.size : Int) < (k : Int) + 2 + lg
  · have HSP : Hid (readS (bl f) (k : Int) = .error (44, (f.size : Int))) := by
      unfold readS
      simp only [HLEN.out, Int.toNat_natCast]
      rw [if_neg H1.out, if_neg H2.out, if_neg H3.out, if_neg H4.out, if_neg H5.out, if_neg H6.out, if_pos (by rw [← VLG.out]; exact h7)]
      exact Lib.hid rfl
    go_enter Tryd.func14, Tryd.ntmps14
    go_wp2_with fail
    (with_reducible refine (HRF.out _).mono ?_)
    rintro e w2 ⟨rfl, rfl⟩
    go_wp2_with fail
    go_quiet (fail)
    go_wp2_with fail
    (with_reducible refine (fail_c _ _ _).mono ?_)
    rintro e w2 ⟨g, rfl, hg, hgs, hk2⟩
    have hz2 : Blk w2 w.heap.size 30 sgZ := (HZ1.out.drewN nq).kp hk2 (fun h => h)
    have hgs' : w.heap.size + 1 ≤ g := by simpa using hgs
    have hst := okSt_blk hz2 sgZ_size sgZ_size sgZ_one
    have HG := Lib.hid hg
    have HZ2 := Lib.hid hz2
    clear hg hz2 hgs
    go_wp2
    refine bodyPost_ret (v := .tuple #[.agg sgZ, .iface 105 (.pointer (some ⟨g, 0, none⟩))]) (seg_results _ _ w.heap.size sgZ _ rfl rfl (HZ2.out.wrRowAll _ rfl) sgZ_size) rfl ?_
    rw [HSP.out]
    exact (⟨g, rfl, HG.out.wrRowFar (by omega) _ _, by omega, ((HK1.out.drewN nq).trans hk2).wrRow (.inr (Nat.le_refl _)) _ _⟩ : FailPost w _ _ _ _)
  have H7 : Hid (¬ ((f.size : Int) < (k : Int) + 2 + ((bl f).getD (k + 2) 0 * 256 + (bl f).getD (k + 3) 0))) := by rw [← VLG.out]; exact Lib.hid h7
  have H67 : (k : Int) + 2 + lg ≤ (f.size : Int) := by omega
  have h2lg : 2 ≤ lg := by omega
  obtain ⟨d, hd⟩ : ∃ d, d = f.extract (k + 4) ((k : Int) + 2 + lg).toNat := ⟨_, rfl⟩
  have hdb : bl d = ((bl f).drop (k + 4)).take (lg.toNat - 2) := by
    rw [hd, bl_extract]
    congr 1
    omega
  have hds : (d.size : Int) ≤ 1000000 := by
    have := congrArg List.length hdb
    rw [bl_length, List.length_take] at this
    omega
  have HSP : Hid (readS (bl f) (k : Int) = outS (k : Int) (rdData y1 (k : Int) ((k : Int) + 2 + lg) (bl d))) := by
    unfold readS
    simp only [HLEN.out, Int.toNat_natCast]
    rw [if_neg H1.out, if_neg H2.out, if_neg (by omega), if_neg H4.out, if_neg (by omega), ← VLG.out, if_neg (by omega), if_neg (by omega), ← V1.out, hdb]
    cases rdData y1 (k : Int) ((k : Int) + 2 + lg) (((bl f).drop (k + 4)).take (lg.toNat - 2)) <;> exact Lib.hid rfl
  have HD := Lib.hid hd
  clear hdb hd
  go_enter Tryd.func14, Tryd.ntmps14
  go_wp2_with fail
  (with_reducible refine (HRF.out _).mono ?_)
  rintro e w2 ⟨rfl, rfl⟩
  go_wp2_with fail
  go_quiet (fail)
  obtain ⟨w3, hw3⟩ : ∃ w3, w3 = (w.alloc (.cells #[.int .u8 0, .int .i64 0, .int .i64 0, .slice none 0 0, .slice none 0 0, .int .u8 0, .int .i64 0, .int .i64 0, .slice none 0 0, .slice none 0 0, .slice none 0 0, .int .i64 0, .string ⟨#[]⟩] 30)).drewN nq := ⟨_, rfl⟩
  rw [← hw3]
  have hz3 : Blk w3 w.heap.size 30 sgZ := by rw [hw3]; exact HZ1.out.drewN nq
  have hk3 : Kp Nn w w3 := by rw [hw3]; exact HK1.out.drewN nq
  have HZ3 := Lib.hid hz3
  have hlt3 := hz3.lt
  clear hw3 hz3 hE hZ1
  have hst1 : okSt (w3.alloc (.cells #[.int .u8 0, .int .i64 0, .int .i64 0, .slice none 0 0, .slice none 0 0, .int .u8 0, .int .i64 0, .int .i64 0, .slice none 0 0, .slice none 0 0, .slice none 0 0, .int .i64 0, .string ⟨#[]⟩] 30)) w3.heap.size 0 13 #[.int .u8 y1, .int .i64 (k : Int), .int .i64 ((k : Int) + 2 + lg), .slice none 0 0, .slice none 0 0, .int .u8 0, .int .i64 0, .int .i64 0, .slice none 0 0, .slice none 0 0, .slice none 0 0, .int .i64 0, .string ⟨#[]⟩] = true :=
    okSt_new _ _ _ _ _ rfl rfl (by simp [Value.oneCell'])
  have hwr1 := wrRow_new w3 #[.int .u8 0, .int .i64 0, .int .i64 0, .slice none 0 0, .slice none 0 0, .int .u8 0, .int .i64 0, .int .i64 0, .slice none 0 0, .slice none 0 0, .slice none 0 0, .int .i64 0, .string ⟨#[]⟩] 30 w3.heap.size [.int .u8 y1, .int .i64 (k : Int), .int .i64 ((k : Int) + 2 + lg), .slice none 0 0, .slice none 0 0, .int .u8 0, .int .i64 0, .int .i64 0, .slice none 0 0, .slice none 0 0, .slice none 0 0, .int .i64 0, .string ⟨#[]⟩] rfl rfl
  go_wp2_with fail
  rw [← HD.out]
  clear hst1 hwr1
  obtain ⟨w4, hw4⟩ : ∃ w4, w4 = w3.alloc (.cells #[.int .u8 y1, .int .i64 (k : Int), .int .i64 ((k : Int) + 2 + lg), .slice none 0 0, .slice none 0 0, .int .u8 0, .int .i64 0, .int .i64 0, .slice none 0 0, .slice none 0 0, .slice none 0 0, .int .i64 0, .string ⟨#[]⟩] 30) := ⟨_, rfl⟩
  rw [← hw4]
  have hb4 : Blk w4 w3.heap.size 30 #[.int .u8 y1, .int .i64 (k : Int), .int .i64 ((k : Int) + 2 + lg), .slice none 0 0, .slice none 0 0, .int .u8 0, .int .i64 0, .int .i64 0, .slice none 0 0, .slice none 0 0, .slice none 0 0, .int .i64 0, .string ⟨#[]⟩] := by
    rw [hw4]; exact Blk.new _ _ _
  have hz4 : Blk w4 w.heap.size 30 sgZ := by rw [hw4]; exact HZ3.out.alloc _
  have hk4 : Kp Nn w w4 := by rw [hw4]; exact hk3.alloc _
  have hsz4 : w3.heap.size < w4.heap.size := hb4.lt
  have hFC := fill_c w4 w3.heap.size d hds y1 (k : Int) ((k : Int) + 2 + lg) r1a r1b hb4
  generalize rdData y1 (k : Int) ((k : Int) + 2 + lg) (bl d) = R at *
  have HFC := Lib.hid hFC
  have HZ4 := Lib.hid hz4
  clear hFC hb4 hz4 hw4
  refine HFC.out.mono ?_
  clear HFC
  intro e w5 hp
  cases R with
  | error er =>
    obtain ⟨rfl, hk5⟩ := hp
    have hkw5 : Kp Nn w w5 := Kp.comp hk4 hk5 (by
      rintro i hi (h | rfl)
      · exact h
      · omega)
    have HZ5 := Lib.hid (HZ4.out.kp hk5 (by omega))
    have hE5 : ErrT w5 := HE0.out.kp hkw5 (fun h => h)
    have HE5 := Lib.hid hE5
    have hsz5 := hk5.size
    clear hE5
    go_wp2_with fail
    refine (as_errno er w5.heap.size (.int .i64 0) _ (HE5.out.kp ((Kp.refl Nn _).alloc _) (fun h => h)) (Blk.new _ _ _)).mono ?_
    rintro e w6 ⟨rfl, hk6, hb6⟩
    have hc6 : w6.cell? ⟨w5.heap.size, 0, none⟩ = some (.int .i64 er) := by rw [hb6.cell]; rfl
    have HZ6 := Lib.hid ((HZ5.out.alloc (.cells #[.int .i64 0] 32)).kp hk6 (by have := HZ5.out.lt; omega))
    have hkw6 : Kp Nn w w6 := Kp.comp (hkw5.alloc (.cells #[.int .i64 0] 32)) hk6 (by
      rintro i hi (h | rfl)
      · exact h
      · have := hkw5.size; omega)
    clear hk6 hb6
    by_cases he : er = 152
    · have hq : (er == 152) = true := by simpa using he
      have HSE : Hid (readS (bl f) (k : Int) = .error (152, (k : Int) + 2)) := by rw [HSP.out, he]; exact Lib.hid rfl
      go_wp2_with fail
      refine (fail_c _ _ _).mono ?_
      rintro e w7 ⟨g, rfl, hg, hgs, hk7⟩
      have hz7 : Blk w7 w.heap.size 30 sgZ := HZ6.out.kp hk7 (fun h => h)
      have hgs' : w.heap.size < g := by have := HZ6.out.lt; omega
      have hst := okSt_blk hz7 sgZ_size sgZ_size sgZ_one
      have HG := Lib.hid hg
      have HZ7 := Lib.hid hz7
      clear hg hz7 hgs he
      go_wp2
      refine bodyPost_ret (v := .tuple #[.agg sgZ, .iface 105 (.pointer (some ⟨g, 0, none⟩))]) (seg_results _ _ w.heap.size sgZ _ rfl rfl (HZ7.out.wrRowAll _ rfl) sgZ_size) rfl ?_
      rw [HSE.out]
      exact (⟨g, rfl, HG.out.wrRowFar (by omega) _ _, by omega, (hkw6.trans hk7).wrRow (.inr (Nat.le_refl _)) _ _⟩ : FailPost w _ _ _ _)
    · have hq : (er == 152) = false := by simpa using he
      have HSE : Hid (readS (bl f) (k : Int) = .error (er, (k : Int))) := by
        rw [HSP.out, outS, if_neg he]; exact Lib.hid rfl
      clear he
      go_wp2_with fail
      refine (fail_c _ _ _).mono ?_
      rintro e w7 ⟨g, rfl, hg, hgs, hk7⟩
      have hz7 : Blk w7 w.heap.size 30 sgZ := HZ6.out.kp hk7 (fun h => h)
      have hgs' : w.heap.size < g := by have := HZ6.out.lt; omega
      have hst := okSt_blk hz7 sgZ_size sgZ_size sgZ_one
      have HG := Lib.hid hg
      have HZ7 := Lib.hid hz7
      clear hg hz7 hgs
      go_wp2
      refine bodyPost_ret (v := .tuple #[.agg sgZ, .iface 105 (.pointer (some ⟨g, 0, none⟩))]) (seg_results _ _ w.heap.size sgZ _ rfl rfl (HZ7.out.wrRowAll _ rfl) sgZ_size) rfl ?_
      rw [HSE.out]
      exact (⟨g, rfl, HG.out.wrRowFar (by omega) _ _, by omega, (hkw6.trans hk7).wrRow (.inr (Nat.le_refl _)) _ _⟩ : FailPost w _ _ _ _)
  | ok s =>
    obtain ⟨rfl, hk5, cs, hb5, hv5⟩ := hp
    have HSE : Hid (readS (bl f) (k : Int) = .ok s) := HSP.out
    have hkw5 : Kp Nn w w5 := Kp.comp hk4 hk5 (by
      rintro i hi (h | rfl)
      · exact h
      · omega)
    have hz5 : Blk w5 w.heap.size 30 sgZ := HZ4.out.kp hk5 (by omega)
    have hcs := hv5.size
    have hone := hv5.one
    have hsz5 := hk5.size
    obtain ⟨w6, hw6⟩ : ∃ w6, w6 = w5.alloc (.cells #[.int .i64 0] 32) := ⟨_, rfl⟩
    have hb6 : Blk w6 w3.heap.size 30 cs := by rw [hw6]; exact hb5.alloc _
    have hz6 : Blk w6 w.heap.size 30 sgZ := by rw [hw6]; exact hz5.alloc _
    have hk56 : Kp Nn w5 w6 := by rw [hw6]; exact (Kp.refl _ _).alloc _
    have HW6 := Lib.hid hw6
    have HB6 := Lib.hid hb6
    have HZ6 := Lib.hid hz6
    have HV5 := Lib.hid hv5
    have HCS := Lib.hid hcs
    have HONE := Lib.hid hone
    clear hb5 hv5 hz5 hcs hone hw6 hb6 hz6
    go_wp2_with fail
    refine (as_nil _ _).mono ?_
    rintro e w7 ⟨rfl, rfl⟩
    rw [← HW6.out]
    have hrd : rdRow w6 w3.heap.size 0 13 = some cs.toList := by
      have hb := HB6.out
      exact Blk.rdAll (cs := cs.toList) (by simpa using hb) (by simp [HCS.out])
    have hst := okSt_blk HZ6.out sgZ_size HCS.out HONE.out
    go_wp2
    refine bodyPost_ret (v := .tuple #[.agg cs, .nilIface]) (seg_results _ _ w.heap.size cs _ rfl rfl (by have := HZ6.out.wrRowAll cs.toList (by simp [HCS.out, sgZ_size]); simpa using this) HCS.out) rfl ?_
    rw [HSE.out]
    have hkr : Kp (fun i => i = w.heap.size) w6 (wrRow w6 w.heap.size 0 cs.toList) := Kp.wrRow (S := fun i => i = w.heap.size) (Kp.refl _ _) (.inl rfl) _ _
    refine (⟨cs, rfl, ?_, (hkw5.trans hk56).wrRow (.inr (Nat.le_refl _)) _ _⟩ : ReadPost w (.ok s) _ _)
    have h1 := HV5.out.kp hk56 (fun i h => h.elim) (fun i h => h.elim)
    have h2 := h1.kp hkr (by rintro i rfl; omega) (by rintro i rfl; exact HZ6.out.noByte (by decide))
    exact h2.base_ (by omega)
end Go.Proofs.YtnpkpikoeijdcaaDoor
