/- Contracts: segment.written, a theorem a kind of segment: all others, DRI. -/
import Derived.Test.YtnpkpikoeijdcaaDoorDa
set_option linter.unusedVariables false
set_option linter.unusedSimpArgs false
namespace Go.Proofs.YtnpkpikoeijdcaaDoor
open Go Go.RowKit

/-- What a segment's data, or the error, is. -/
def WrPost (w : World) (r : Except Int (List Int)) (e : Ending) (w' : World) : Prop :=
  match r with
  | .error er => e = .returned (.tuple #[.slice none 0 0, .int .i64 er]) ∧ Kp Nn w w'
  | .ok l => ∃ A c, e = .returned (.tuple #[.slice A l.length c, .int .i64 0]) ∧ l.length ≤ c ∧ c ≤ maxLen ∧ Bs w' A l.length l ∧ Kp Nn w w'
theorem WrPost.by_ {w w' : World} {base : Nat} {v : Value} {l : List Int} (h : By w' base v l) (hk : Kp Nn w w') : WrPost w (.ok l) (.returned (.tuple #[v, .int .i64 0])) w' := by
  obtain ⟨A, c, rfl, h1, h2⟩ := h.form
  exact ⟨A, c, rfl, h1, h2, h.bs, hk⟩

set_option maxHeartbeats 2000000 in
set_option maxRecDepth 100000 in
attribute [local go_sem ↓] h_bytes in
theorem written_other (w : World) (code a ed kd wd ht rs : Int) (qv hv fv pv iv : Value) (ds : ByteArray) (hds : ds.size ≤ 140737488351232)
    (n1 : code ≠ 219) (n2 : code ≠ 196) (n3 : code ≠ 192) (n4 : code ≠ 193) (n5 : code ≠ 221) (n6 : code ≠ 218) :
    Calls Tryd.prog 42 #[.agg #[.int .u8 code, .int .i64 a, .int .i64 ed, qv, hv, .int .u8 kd, .int .i64 wd, .int .i64 ht, fv, pv, iv, .int .i64 rs, .string ds]] w fun e w' => WrPost w (.ok (bl ds)) e w' := by
  have b1 : (code == 219) = false := by simpa using n1
  have b2 : (code == 196) = false := by simpa using n2
  have b3 : (code == 192) = false := by simpa using n3
  have b4 : (code == 193) = false := by simpa using n4
  have b5 : (code == 221) = false := by simpa using n5
  have b6 : (code == 218) = false := by simpa using n6
  clear n1 n2 n3 n4 n5 n6
  go_enter Tryd.func42, Tryd.ntmps42
  go_wp2
  go_ret2
  obtain ⟨w1, hw1⟩ : ∃ w1, w1 = w.alloc (.cells #[.int .u8 code, .int .i64 a, .int .i64 ed, qv, hv, .int .u8 kd, .int .i64 wd, .int .i64 ht, fv, pv, iv, .int .i64 rs, .string ds] 30) := ⟨_, rfl⟩
  have hk1 : Kp Nn w w1 := by rw [hw1]; exact (Kp.refl _ _).alloc _
  have hs1 : w1.heap.size = w.heap.size + 1 := by rw [hw1]; simp
  have hb := newBytes_bs w1 ds
  rw [hs1] at hb
  have hk := newBytes_kp Nn w1 ds
  have hc1 := grownCap_ge w1 ds.size 0 5
  have hc2 := grownCap_le_maxLen w1 ds.size 0 5 (by simp [maxLen]; omega)
  have hfin : WrPost w (.ok (bl ds)) (.returned (.tuple #[.slice (some ⟨w.heap.size + 1, 0, none⟩) ds.size (grownCap w1 ds.size 0 5), .int .i64 0])) (newBytes w1 ds) := by
    refine ⟨_, _, by rw [bl_length], by rw [bl_length]; exact hc1, hc2, by rw [bl_length]; exact hb, hk1.trans hk⟩
  rw [hw1] at hfin
  exact hfin

set_option maxHeartbeats 2000000 in
set_option maxRecDepth 100000 in
theorem written_dri (w : World) (a ed kd wd ht rs : Int) (qv hv fv pv iv : Value) (ds : ByteArray) :
    Calls Tryd.prog 42 #[.agg #[.int .u8 221, .int .i64 a, .int .i64 ed, qv, hv, .int .u8 kd, .int .i64 wd, .int .i64 ht, fv, pv, iv, .int .i64 rs, .string ds]] w fun e w' =>
      WrPost w (if rs < 0 ∨ 65535 < rs then .error 3 else .ok (twoS rs)) e w' := by
  by_cases h0 : rs < 0
  · rw [if_pos (.inl h0)]
    go_enter Tryd.func42, Tryd.ntmps42
    go_wp2
    go_ret2
    exact ⟨rfl, (Kp.refl _ _).alloc _⟩
  by_cases h1 : 65535 < rs
  · rw [if_pos (.inr h1)]
    go_enter Tryd.func42, Tryd.ntmps42
    go_wp2
    go_ret2
    exact ⟨rfl, (Kp.refl _ _).alloc _⟩
  · rw [if_neg (by omega)]
    go_enter Tryd.func42, Tryd.ntmps42
    go_wp2_with fail
    refine (two_c _ w.heap.size _ [] rs (by omega) (by omega) (By.nil _ _) (by simp) (by simp)).mono ?_
    rintro e w2 ⟨g, cap, rfl, hb, hk, _⟩
    have HB := Lib.hid hb
    have HK : Hid (Kp Nn w w2) := by
      have := ((Kp.refl Nn w).alloc (.cells #[.int .u8 221, .int .i64 a, .int .i64 ed, qv, hv, .int .u8 kd, .int .i64 wd, .int .i64 ht, fv, pv, iv, .int .i64 rs, .string ds] 30)).trans (hk.mono (fun i _ h => by simp [Value.ownBlock] at h))
      exact Lib.hid this
    clear hb hk
    go_wp2
    go_ret2
    have := WrPost.by_ HB.out HK.out
    simpa using this
end Go.Proofs.YtnpkpikoeijdcaaDoor
