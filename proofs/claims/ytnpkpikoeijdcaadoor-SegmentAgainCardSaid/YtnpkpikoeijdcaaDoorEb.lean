/- Contracts: told of a fault; slices.Clone of extras; Extras. -/
import Derived.Test.YtnpkpikoeijdcaaDoorEa
import Derived.Test.YtnpkpikoeijdcaaDoorAs
set_option linter.unusedVariables false
set_option linter.unusedSimpArgs false
namespace Go.Proofs.YtnpkpikoeijdcaaDoor
open Go Go.RowKit

theorem ty_fault : AggTy Tryd.prog 44 2 := by show aggOk _ _ _ = true; kernel_rfl
theorem told_results (w : World) (tmps : Array Value) (R : Nat) (cs : Array Value) (err : Value) (h4 : tmps.getD 2 undef = .pointer (some ⟨R, 0, none⟩)) (h5 : tmps.getD 3 undef = err) (hb : Blk w R 44 cs) (hs : cs.size = 2) :
    (results Tryd.f16 tmps).run Tryd.prog w = .ok (.tuple #[.agg cs, err]) w := by
  have hl := run_loadVar_agg ty_fault w R 0 cs.toList (by simp [hs]) (fun j v hv => by rw [hb.cell]; simpa using hv)
  simp only [Array.toArray_toList] at hl
  rw [results_cell_tmp Tryd.results16, h4, h5]
  simp only [asAddr, Sem.run_pure, Result.andThen_ok, hl]
set_option maxHeartbeats 2000000 in
set_option maxRecDepth 100000 in
theorem told_fault (w : World) (c : Nat) (code place : Int) (hE : ErrT w) (hb : Blk w c 44 #[.int .i64 code, .int .i64 place]) (hc : code ≠ 0) :
    Calls Tryd.prog 16 #[.iface 105 (.pointer (some ⟨c, 0, none⟩))] w fun e w' => e = .returned (.tuple #[.agg #[.int .i64 code, .int .i64 place], .bool true]) ∧ Kp Nn w w' := by
  obtain ⟨w1, hw1⟩ : ∃ w1, w1 = w.alloc (.cells #[.int .i64 0, .int .i64 0] 44) := ⟨_, rfl⟩
  obtain ⟨w2, hw2⟩ : ∃ w2, w2 = w1.alloc (.cells #[.pointer none] 105) := ⟨_, rfl⟩
  have hk1 : Kp Nn w w1 := by rw [hw1]; exact (Kp.refl _ _).alloc _
  have hk2 : Kp Nn w w2 := by rw [hw2]; exact hk1.alloc _
  have hs1 : w1.heap.size = w.heap.size + 1 := by rw [hw1]; simp
  have hb1 : Blk w2 w.heap.size 44 #[.int .i64 0, .int .i64 0] := by rw [hw2, hw1]; exact (Blk.new _ _ _).alloc _
  have hb2 : Blk w2 (w.heap.size + 1) 105 #[.pointer none] := by rw [hw2, ← hs1]; exact Blk.new _ _ _
  have hbc := hb.kp hk2 (fun h => h)
  have hlt := hb.lt
  have HA := Lib.hid (as_fault ⟨c, 0, none⟩ (w.heap.size + 1) (.pointer none) w2 (hE.kp hk2 (fun h => h)) hb2)
  have HWW : Hid (w2 = (w.alloc (.cells #[.int .i64 0, .int .i64 0] 44)).alloc (.cells #[.pointer none] 105)) := by rw [hw2, hw1]; exact Lib.hid rfl
  clear hw1 hw2 hk1 hs1 hE hb hb2
  go_enter Tryd.func16, Tryd.ntmps16
  go_wp2_with fail
  rw [← HWW.out]
  refine HA.out.mono ?_
  rintro e w3 ⟨rfl, hk3, hb3⟩
  have hb13 := hb1.kp hk3 (by omega)
  have hbc3 := hbc.kp hk3 (by omega)
  have hkw3 : Kp Nn w w3 := Kp.comp hk2 hk3 (fun i hi h => h.elim id (fun h => by omega))
  have c1 : w3.cell? ⟨w.heap.size + 1, 0, none⟩ = some (.pointer (some ⟨c, 0, none⟩)) := by rw [hb3.cell]; rfl
  have c2 : w3.cell? ⟨c, 0, none⟩ = some (.int .i64 code) := by rw [hbc3.cell]; rfl
  have c3 : w3.cell? ⟨c, 1, none⟩ = some (.int .i64 place) := by rw [hbc3.cell]; rfl
  have c4 : w3.cell? ⟨w.heap.size, 0, none⟩ = some (.int .i64 0) := by rw [hb13.cell]; rfl
  have c5 : w3.cell? ⟨w.heap.size, 1, none⟩ = some (.int .i64 0) := by rw [hb13.cell]; rfl
  have f4 := hb13.frozen 0
  have f5 := hb13.frozen 1
  have hcz : (code == 0) = false := by simpa using hc
  have HB := Lib.hid hb13
  have HK := Lib.hid hkw3
  clear hb13 hbc3 hb3 hk3 hb1 hbc hk2 HA HWW hkw3 hc
  go_wp2
  refine bodyPost_ret (v := .tuple #[.agg #[.int .i64 code, .int .i64 place], .bool true]) (told_results _ _ w.heap.size #[.int .i64 code, .int .i64 place] _ rfl rfl ?hbb rfl) rfl ?_
  case hbb => exact (HB.out.set_ _ _).set_ _ _
  refine ⟨rfl, ?_⟩
  exact Kp.setCell (S := Nn) (Kp.setCell (S := Nn) HK.out (.inr (Nat.le_refl _)) _) (.inr (Nat.le_refl _)) _
theorem eql_nil (w : World) (a : Option Addr) (l c : Nat) : (binOp .eql 82 (.slice a l c) (.slice none 0 0)).run Tryd.prog w = .ok (.bool a.isNone) w := by
  simp only [binOp]
  simp [run_equal_slice_nil w 82 86 a l c Tryd.underlying82]
set_option maxHeartbeats 2000000 in
set_option maxRecDepth 100000 in
attribute [local go_sem ↓] e_append in
attribute [local go_sem] eql_nil in
theorem clone_c (w : World) (b off cap : Nat) (xs : List Value) (hl : xs.length = 2) (h1 : ∀ u ∈ xs, u.oneCell' = true) (hc : ∀ j u, xs[j]? = some u → w.cell? ⟨b, off + j, none⟩ = some u) :
    Calls Tryd.prog 59 #[.slice (some ⟨b, off, none⟩) 1 cap] w fun e w' => ∃ v', e = .returned v' ∧ Kp Nn w w' ∧ w'.ownsRow w.heap.size 86 2 v' 1 xs := by
  obtain ⟨w1, hw1⟩ : ∃ w1, w1 = w.alloc (.cells #[] 86) := ⟨_, rfl⟩
  have hk1 : Kp Nn w w1 := by rw [hw1]; exact (Kp.refl _ _).alloc _
  have hs1 : w1.heap.size = w.heap.size + 1 := by rw [hw1]; simp
  have hown1 : w1.ownsRow w.heap.size 86 2 (.slice (some ⟨w.heap.size, 0, none⟩) 0 0) 0 [] :=
    ⟨rfl, .inr ⟨w.heap.size, 0, #[], rfl, Nat.le_refl _, by rw [hw1]; exact Blk.new _ _ _, Nat.le_refl _, by simp [maxLen], rfl, rfl⟩⟩
  obtain ⟨i0, hi0, hz0, hz1, hz2⟩ := extra_info
  obtain ⟨ap1, g, c2, ap2, hown, hgr, _⟩ := ap_lies (P := Tryd.prog) w1 82 w.heap.size 86 i0 _ 2 24 Tryd.underlying82 hi0 hz0 hz1 hz2 (by rfl) (by omega) (.slice (some ⟨w.heap.size, 0, none⟩) 0 0) 0 [] hown1
    ⟨b, off, none⟩ 1 cap xs hl (fun j u hj => by rw [addr_add]; exact hk1.cell' (hc j u hj) (fun h => h)) h1 (by omega) (by simp [maxLen]) (by omega) (by omega)
  have hkA := Kp.of_grown hgr (fun i => i = w.heap.size) (fun i h => by simpa [Value.ownBlock] using h.symm)
  have hkw : Kp Nn w (apW Tryd.prog 82 (.slice (some ⟨w.heap.size, 0, none⟩) 0 0) (.slice (some ⟨b, off, none⟩) 1 cap) w1) := Kp.comp hk1 hkA (fun i hi h => h.elim id (fun h => by omega))
  rw [← ap2] at hown
  simp only [List.nil_append] at hown
  have HF : Hid (Kp Nn w (apW Tryd.prog 82 (.slice (some ⟨w.heap.size, 0, none⟩) 0 0) (.slice (some ⟨b, off, none⟩) 1 cap) w1) ∧ (apW Tryd.prog 82 (.slice (some ⟨w.heap.size, 0, none⟩) 0 0) (.slice (some ⟨b, off, none⟩) 1 cap) w1).ownsRow w.heap.size 86 2 (apV Tryd.prog 82 (.slice (some ⟨w.heap.size, 0, none⟩) 0 0) (.slice (some ⟨b, off, none⟩) 1 cap) w1) 1 xs) := Lib.hid ⟨hkw, hown⟩
  clear hkw hown hkA hgr hown1 ap2 hi0 hz0 hz1 hz2 hc h1 hk1 hs1
  rw [hw1] at ap1 HF
  go_enter Tryd.func59, Tryd.ntmps59
  go_wp2
  go_ret
  exact ⟨_, rfl, HF.out⟩
set_option maxHeartbeats 2000000 in
set_option maxRecDepth 100000 in
theorem extras_c (w : World) (g b off cap : Nat) (st : Array Value) (xs : List Value) (hl : xs.length = 2) (h1 : ∀ u ∈ xs, u.oneCell' = true) (hc : ∀ j u, xs[j]? = some u → w.cell? ⟨b, off + j, none⟩ = some u)
    (hb : Blk w g 119 st) (hv : st[558]? = some (.slice (some ⟨b, off, none⟩) 1 cap)) :
    Calls Tryd.prog 30 #[.pointer (some ⟨g, 0, none⟩)] w fun e w' => ∃ v', e = .returned v' ∧ Kp Nn w w' ∧ w'.ownsRow w.heap.size 86 2 v' 1 xs := by
  have c1 : w.cell? ⟨g, 558, none⟩ = some (.slice (some ⟨b, off, none⟩) 1 cap) := by rw [hb.cell]; exact hv
  have HC := Lib.hid (clone_c w b off cap xs hl h1 hc)
  clear hb hv hc
  go_enter Tryd.func30, Tryd.ntmps30
  go_wp2_with fail
  refine HC.out.mono ?_
  rintro e w2 ⟨v', rfl, h2, h3⟩
  go_wp2
  go_ret
  exact ⟨_, rfl, h2, h3⟩
end Go.Proofs.YtnpkpikoeijdcaaDoor
