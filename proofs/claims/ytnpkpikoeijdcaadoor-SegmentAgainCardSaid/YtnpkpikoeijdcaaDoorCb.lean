/- Contracts: huff.weight, huff.Check. -/
import Derived.Test.YtnpkpikoeijdcaaDoorCa
import Derived.Test.YtnpkpikoeijdcaaDoorRules
namespace Go.Proofs.YtnpkpikoeijdcaaDoor
open Go Go.RowKit

def u8s (l : List Int) : List Value := l.map fun x => .int .u8 x
def u16s (l : List Int) : List Value := l.map fun x => .int .u16 x
def specCells (cnt : List Int) (v : Value) : List Value := u8s cnt ++ [v]
theorem u8s_get (l : List Int) (i : Nat) (h : i < l.length) : (u8s l)[i]? = some (.int .u8 (l.getD i 0)) := by simp [u8s, h]
theorem u8s_length (l : List Int) : (u8s l).length = l.length := by simp [u8s]
theorem u8s_one (l : List Int) : ∀ v ∈ u8s l, v.oneCell' = true := by simp [u8s, Value.oneCell']
theorem u16s_get (l : List Int) (i : Nat) (h : i < l.length) : (u16s l)[i]? = some (.int .u16 (l.getD i 0)) := by simp [u16s, h]
theorem u16s_length (l : List Int) : (u16s l).length = l.length := by simp [u16s]
theorem u16s_one (l : List Int) : ∀ v ∈ u16s l, v.oneCell' = true := by simp [u16s, Value.oneCell']

theorem ty_counts : AggTy Tryd.prog 59 16 := by show aggOk _ _ _ = true; kernel_rfl
theorem ty_spec : AggTy Tryd.prog 61 17 := by show aggOk _ _ _ = true; kernel_rfl
theorem agg_u8 (w : World) : (isAgg 5).run Tryd.prog w = .ok false w := by kernel_rfl
theorem size_u8 (w : World) : (sizeOf 5).run Tryd.prog w = .ok 1 w := by kernel_rfl

set_option maxHeartbeats 1000000 in
theorem weight_c (w : World) (cnt : List Int) (sv : Value) (hl : cnt.length = 16) (hb : ∀ x ∈ cnt, 0 ≤ x ∧ x ≤ 255) :
    Calls Tryd.prog 94 #[.agg (specCells cnt sv).toArray] w fun e w' => e = .returned (.tuple #[.int .i64 (hweight 0 cnt 0 0).1, .int .i64 (hweight 0 cnt 0 0).2]) ∧ Kp Nn w w' := by
  have HL := Lib.hid hl
  have HB := Lib.hid hb
  clear hl hb
  go_enter Tryd.func94, Tryd.ntmps94
  go_wp2_with (first
    | (refine wpList_load_agg rfl ty_counts _ rfl w.heap.size 0 rfl (u8s cnt) (by rw [u8s_length]; exact HL.out) (Blk.at_ (Blk.new _ _ _) 0 (u8s cnt) ?hc) ?_))
  case hc =>
    intro j v hv
    have hj : j < cnt.length := by
      by_cases h : j < cnt.length
      · exact h
      · rw [List.getElem?_eq_none (by rw [u8s_length]; omega)] at hv; cases hv
    simpa [specCells, List.getElem?_append_left, u8s_length, hj] using hv
  have hidx : ∀ (k : Nat), k < 16 → ∀ w, (Instr.index 59 (.agg (u8s cnt).toArray) (.int .i64 (k : Int))).run Tryd.prog w = .ok (.int .u8 (cnt.getD k 0)) w := fun k hk w =>
    run_index_agg Tryd.underlying59 agg_u8 size_u8 _ _ _ hk _ (by simp [u8s, HL.out, hk]) w
  have HI := Lib.hid hidx
  clear hidx
  go_loop [4, 5, 10] (fun s n i => ∃ (k : Nat) (sv nv : Int), k ≤ 16 ∧ i = .int .i64 k ∧ s = .int .i64 sv ∧ n = .int .i64 nv ∧ 0 ≤ sv ∧ sv ≤ k * 10000000 ∧ 0 ≤ nv ∧ nv ≤ k * 255 ∧ Hid (hweight k (cnt.drop k) sv nv = hweight 0 cnt 0 0)) (fun _ _ i => 16 - (intOf i).toNat)
  case atStart => exact ⟨0, 0, 0, by omega, rfl, rfl, rfl, by omega, by omega, by omega, by omega, rfl⟩
  case round =>
    obtain ⟨k, sv, nv, hk, rfl, rfl, rfl, a1, a2, b1, b2, hq⟩ := hrel
    by_cases hlt : k < 16
    · have hi := HI.out k hlt
      have HD := Lib.hid (getD_drop cnt k (by have := HL.out; omega))
      have hx := HB.out (cnt.getD k 0) (by simp [HL.out, hlt])
      obtain ⟨x1, x2⟩ := hx
      generalize cnt.getD k 0 = x at *
      have hp : (0 : Int) ≤ x * 2 ^ (15 - k) ∧ x * 2 ^ (15 - k) ≤ 8355840 := by
        have h2 : (2 : Int) ^ (15 - k) ≤ 32768 := by
          have : (2 : Nat) ^ (15 - k) ≤ 2 ^ 15 := Nat.pow_le_pow_right (by omega) (by omega)
          have h3 : ((2 ^ (15 - k) : Nat) : Int) ≤ ((2 ^ 15 : Nat) : Int) := Int.ofNat_le.2 this
          simpa using h3
        have h1 : (0 : Int) ≤ 2 ^ (15 - k) := Int.pow_nonneg (by omega)
        refine ⟨Int.mul_nonneg x1 h1, ?_⟩
        have := Int.mul_le_mul x2 h2 h1 (by omega)
        omega
      go_wp2
      go_round
      case rel =>
        refine ⟨k + 1, sv + x * 2 ^ (15 - k), nv + x, by omega, by go_num, ?_, rfl, by omega, by omega, by omega, by omega, ?_⟩
        · rfl
        · have := hq.out; rw [HD.out, hweight] at this; exact this
      case measure => simp [intOf]; omega
    · go_wp2
      go_ret2
      have := hq.out
      rw [List.drop_of_length_le (by have := HL.out; omega), hweight] at this
      rw [← this]
      exact ⟨rfl, (Kp.refl _ _).alloc _⟩

theorem zero_bools : (Tryd.prog.info? 171).bind (·.zero) = some (.agg (Array.replicate 256 (.bool false))) := by kernel_rfl
theorem specCells_at (cnt : List Int) (v : Value) (h : cnt.length = 16) : (specCells cnt v)[16]? = some v := by
  have : (u8s cnt).length = 16 := by rw [u8s_length, h]
  simp [specCells, this]
theorem hweight_bd : ∀ (cnt : List Int) (i : Nat) (s n : Int), (∀ x ∈ cnt, 0 ≤ x ∧ x ≤ 255) → 0 ≤ s → 0 ≤ n → 0 ≤ (hweight i cnt s n).1 ∧ n ≤ (hweight i cnt s n).2
  | [], i, s, n, _, hs, hn => ⟨hs, Int.le_refl _⟩
  | c :: r, i, s, n, hb, hs, hn => by
    have hc := hb c (by simp)
    have h1 : (0 : Int) ≤ c * 2 ^ (15 - i) := Int.mul_nonneg hc.1 (Int.pow_nonneg (by omega))
    have := hweight_bd r (i + 1) (s + c * 2 ^ (15 - i)) (n + c) (fun x hx => hb x (by simp [hx])) (by omega) (by omega)
    rw [hweight]
    omega

set_option maxHeartbeats 2000000 in
theorem huffCheck_c (w : World) (B : Nat) (cnt vals : List Int) (A : Option Addr) (c : Nat) (hl : cnt.length = 16) (hb : ∀ x ∈ cnt, 0 ≤ x ∧ x ≤ 255) (hv : ∀ x ∈ vals, 0 ≤ x ∧ x ≤ 255)
    (hr : Rd w B 1 A vals.length (u8s vals)) (_hB : B ≤ w.heap.size) (hm : vals.length ≤ maxLen) :
    Calls Tryd.prog 67 #[.agg (specCells cnt (.slice A vals.length c)).toArray] w fun e w' => e = .returned (.int .i64 (hcheck cnt vals)) ∧ Kp Nn w w' := by
  have HL := Lib.hid hl
  have HB := Lib.hid hb
  have HV := Lib.hid hv
  have hbd := hweight_bd cnt 0 0 0 hb (by omega) (by omega)
  have h16 := specCells_at cnt (.slice A vals.length c) hl
  have hs : (specCells cnt (.slice A vals.length c)).length = 17 := by simp [specCells, u8s_length, hl]
  have HS := Lib.hid hs
  have hh : hcheck cnt vals = hcheck cnt vals := rfl
  conv at hh => rhs; unfold hcheck
  obtain ⟨sm, hsm⟩ : ∃ x, (hweight 0 cnt 0 0).1 = x := ⟨_, rfl⟩
  obtain ⟨nn, hnn⟩ : ∃ x, (hweight 0 cnt 0 0).2 = x := ⟨_, rfl⟩
  rw [hsm, hnn] at hh hbd
  generalize hcheck cnt vals = res at *
  have HH := Lib.hid hh
  have HSM := Lib.hid hsm
  have HNN := Lib.hid hnn
  unfold maxLen at hm
  clear hl hb hv hs hh hsm hnn
  generalize hsc : specCells cnt (.slice A vals.length c) = sc at *
  have HSC := Lib.hid hsc
  clear hsc
  go_enter Tryd.func67, Tryd.ntmps67
  go_wp2_with (first
    | (refine wpList_load_agg rfl ty_spec _ rfl w.heap.size 0 rfl sc HS.out (Blk.at_ (Blk.new _ _ _) 0 sc (fun j v h => by simpa using h)) ?_)
    | (refine wpList_alloc rfl 171 rfl _ zero_bools ?_))
  rw [← HSC.out]
  refine (weight_c _ cnt _ HL.out HB.out).mono ?_
  rw [HSC.out, HSM.out, HNN.out]
  rintro e w1 ⟨rfl, hk1⟩
  have hb1 : Blk w1 w.heap.size 61 sc.toArray := (Blk.new _ _ _).kp hk1 (fun h => h)
  have hc16 : w1.cell? ⟨w.heap.size, 16, none⟩ = some (.slice A vals.length c) := by rw [hb1.cell]; simpa using h16
  have hz1 := hb1.lt
  go_wp2_with (first
    | (refine wpList_alloc rfl 171 rfl _ zero_bools ?_))
  all_goals try (
    go_ret
    refine ⟨ret_int ?_, ?_⟩
    · rw [HH.out]
      clear HH HS HSC HL HB HV HSM HNN
      simp only [beq_iff_eq, beq_eq_false_iff_ne, ne_eq, bne_iff_ne, bne_eq_false_iff_eq] at *
      repeat' split
      all_goals first | rfl | (exfalso; omega)
    · exact ((Kp.refl _ _).alloc _).comp hk1 (fun _ _ h => h.elim id id))
  have hnn0 : ¬ nn = 0 := by assumption
  have hn3 : ((nn == 0) = false ∧ nn ≤ 256) ∧ (nn != (vals.length : Int)) = false := by assumption
  have hnv := hn3.2
  have hnv' : nn = vals.length := by simpa using hnv
  obtain ⟨b, off, rfl, hbB, hcell⟩ := hr.at_ (by omega)
  have hcl : ∀ wr, Kp Nn w1 wr → ∀ k, k < vals.length → wr.cell? ⟨b, off + k, none⟩ = some (.int .u8 (vals.getD k 0)) := fun wr hk k hlt => by
    have h1 := hcell k _ (u8s_get vals k hlt)
    have h2 : Kp Nn w wr := (((Kp.refl _ _).alloc _).comp hk1 (fun _ _ h => h.elim id id)).trans hk
    exact h2.cell' h1 (fun h => h)
  have HCL := Lib.hid hcl
  have hsm0 : sm ≤ 65535 := by assumption
  have HR : Hid (res = if dup [] vals = true then 42 else 0) := by
    have := HH.out
    rw [if_neg (by omega), if_neg (by omega)] at this
    exact this
  have HC := Lib.hid hcell
  clear hcl hnv' hcell hnv
  go_loopw [31] (fun i wr => ∃ (k : Nat) (seen : List Int) (arr : Array Value), k ≤ vals.length ∧ i = .int .i64 k ∧ Hid (dup seen (vals.drop k) = dup [] vals) ∧ Blk wr w1.heap.size 171 arr ∧ Hid (∀ j, j < 256 → arr[j]? = some (.bool (decide ((j : Int) ∈ seen)))) ∧ Kp Nn w1 wr) (fun i _ => vals.length - (intOf i).toNat)
  case atStart => exact ⟨0, [], _, by omega, rfl, rfl, Blk.new _ _ _, fun j hj => by simp [hj], (Kp.refl _ _).alloc _⟩
  case round =>
    obtain ⟨k, seen, arr, hk, rfl, hq, hblk, harr, hkp⟩ := hrel
    by_cases hlt : k < vals.length
    · have hce := HCL.out _ hkp k hlt
      have HD := Lib.hid (getD_drop vals k hlt)
      obtain ⟨x1, x2⟩ := HV.out (vals.getD k 0) (by rw [List.getD_eq_getElem?_getD, List.getElem?_eq_getElem hlt]; exact List.getElem_mem hlt)
      generalize vals.getD k 0 = x at *
      obtain ⟨x, rfl⟩ := Int.eq_ofNat_of_zero_le x1
      have hx := harr.out x (by omega)
      have hcb : wr.cell? ⟨w1.heap.size, x, none⟩ = some (.bool (decide ((x : Int) ∈ seen))) := by rw [hblk.cell]; exact hx
      have hfb := hblk.frozen x
      by_cases hm : (x : Int) ∈ seen
      · have hmd : decide ((x : Int) ∈ seen) = true := decide_eq_true hm
        go_wp2
        go_ret
        refine ⟨ret_int ?_, (((Kp.refl _ _).alloc _).comp hk1 (fun _ _ h => h.elim id id)).trans hkp⟩
        have := hq.out
        rw [HD.out, dup, if_pos hm] at this
        rw [HR.out, ← this, if_pos rfl]
      · have hmd : decide ((x : Int) ∈ seen) = false := decide_eq_false hm
        go_wp2
        go_roundw
        case rel =>
          refine ⟨k + 1, (x : Int) :: seen, _, by omega, by go_num, ?_, hblk.set_ _ _, ?_, hkp.setCell (.inr (Nat.le_refl _)) _⟩
          · have := hq.out
            rw [HD.out, dup, if_neg hm] at this
            exact this
          · intro j hj
            have h0 := harr.out j hj
            have hsz : x < arr.size := by
              by_cases h : x < arr.size
              · exact h
              · rw [Array.getElem?_eq_none (by omega)] at hx; cases hx
            rw [Array.getElem?_setIfInBounds]
            by_cases e : x = j
            · subst e; simp [hsz]
            · rw [if_neg e, h0]
              have : ¬ (j : Int) = (x : Int) := by omega
              simp [this]
        case measure => simp [intOf]; omega
    · go_wp2
      go_ret
      refine ⟨ret_int ?_, (((Kp.refl _ _).alloc _).comp hk1 (fun _ _ h => h.elim id id)).trans hkp⟩
      have := hq.out
      rw [List.drop_of_length_le (by omega), dup] at this
      rw [HR.out, ← this]
      simp
end Go.Proofs.YtnpkpikoeijdcaaDoor
