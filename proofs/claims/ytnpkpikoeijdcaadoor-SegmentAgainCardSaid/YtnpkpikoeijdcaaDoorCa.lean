/- Contracts of the small functions that read: marker.Kind and segment.refused, quant.Check. -/
import Derived.Test.YtnpkpikoeijdcaaDoorProg
import Derived.Test.YtnpkpikoeijdcaaDoorSpec
namespace Go.Proofs.YtnpkpikoeijdcaaDoor
open Go Go.RowKit

theorem getD_drop (t : List Int) (k : Nat) (h : k < t.length) : t.drop k = t.getD k 0 :: t.drop (k + 1) := by
  rw [List.drop_eq_getElem_cons h]; simp [h]

theorem ret_int {k : IntKind} {a b : Int} (h : a = b) : Ending.returned (.int k a) = .returned (.int k b) := by rw [h]
set_option maxHeartbeats 4000000 in
theorem refused_c (w : World) (c : Int) (h0 : 0 ≤ c) (h1 : c ≤ 255) :
    Calls Tryd.prog 41 #[.int .u8 c] w fun e w' => e = .returned (.int .i64 (refusedS c)) ∧ w = w' := by
  go_enter Tryd.func41, Tryd.ntmps41
  go_wp2
  all_goals
    go_ret
    refine ⟨ret_int ?_, rfl⟩
    simp only [beq_iff_eq, beq_eq_false_iff_ne, ne_eq] at *
    unfold refusedS
    repeat' split
    all_goals first | rfl | (exfalso; omega)

set_option maxHeartbeats 400000 in
theorem quantCheck_c (w : World) (b off : Nat) (t : List Int) (ht : t.length = 64) (hc : ∀ i, i < 64 → w.cell? ⟨b, off + i, none⟩ = some (.int .u16 (t.getD i 0)))
    (wide : Bool) : Calls Tryd.prog 66 #[.pointer (some ⟨b, off, none⟩), .bool wide] w fun e w' => e = .returned (.int .i64 (qcheck wide t 0)) ∧ w = w' := by
  have HC := Lib.hid hc
  have HT := Lib.hid ht
  clear hc ht
  go_enter Tryd.func66, Tryd.ntmps66
  go_wp2
  go_loop [5, 11] (fun e i => ∃ (k : Nat) (ev : Int), k ≤ 64 ∧ i = .int .i64 k ∧ e = .int .i64 ev ∧ Hid (qcheck wide (t.drop k) ev = qcheck wide t 0)) (fun _ i => 64 - (intOf i).toNat)
  case atStart => exact ⟨0, 0, by omega, rfl, rfl, rfl⟩
  case round =>
    obtain ⟨k, ev, hk, rfl, rfl, hq⟩ := hrel
    by_cases hlt : k < 64
    · have hcell := HC.out k hlt
      have HD := Lib.hid (getD_drop t k (by have := HT.out; omega))
      generalize t.getD k 0 = x at *
      go_wp2
      · have h0 : (x == 0) = true := by assumption
        go_ret
        have e0 : x = 0 := by simpa using h0
        refine ⟨?_, rfl⟩
        have := hq.out; rw [HD.out, qcheck, if_pos e0] at this
        exact ret_int this
      all_goals
        have h0 : (x == 0) = false := by assumption
        have e0 : ¬ x = 0 := by simpa using h0
        go_round
        case rel => 
          refine ⟨k + 1, _, by omega, by go_num, rfl, ?_⟩
          have := hq.out; rw [HD.out, qcheck, if_neg e0] at this
          first
          | (rw [if_pos ⟨by assumption, by have h : (!wide) = true := by assumption
                                           simpa using h⟩] at this; exact this)
          | (rw [if_neg (by rintro ⟨a, b⟩; first | omega | (have h : (!wide) = false := by assumption
                                                            simp [b] at h))] at this; exact this)
        case measure => simp [intOf]; omega
    · go_wp2
      go_ret
      refine ⟨?_, rfl⟩
      have := hq.out; rw [List.drop_of_length_le (by have := HT.out; omega), qcheck] at this
      exact ret_int this

theorem take_no (w : World) (g : Nat) (s : ByteArray) (n : Int) (hc : w.cell? ⟨g, 0, none⟩ = some (.string s)) (h0 : (s.size : Int) < n) :
    Calls Tryd.prog 96 #[.pointer (some ⟨g, 0, none⟩), .int .i64 n] w fun e w' => e = .returned (.tuple #[.string ⟨#[]⟩, .bool false]) ∧ w = w' := by
  go_enter Tryd.func96, Tryd.ntmps96
  go_wp2
  go_ret2
  exact ⟨rfl, rfl⟩
theorem take_yes (w : World) (g : Nat) (s : ByteArray) (n : Int) (hc : w.cell? ⟨g, 0, none⟩ = some (.string s)) (hf : w.frozen? ⟨g, 0, none⟩ = false) (hn : 0 ≤ n) (h0 : n ≤ (s.size : Int)) :
    Calls Tryd.prog 96 #[.pointer (some ⟨g, 0, none⟩), .int .i64 n] w fun e w' => e = .returned (.tuple #[.string (s.extract 0 n.toNat), .bool true]) ∧ w.setCell ⟨g, 0, none⟩ (.string (s.extract n.toNat s.size)) = w' := by
  go_enter Tryd.func96, Tryd.ntmps96
  go_wp2
  go_ret2
  exact ⟨rfl, rfl⟩
end Go.Proofs.YtnpkpikoeijdcaaDoor
