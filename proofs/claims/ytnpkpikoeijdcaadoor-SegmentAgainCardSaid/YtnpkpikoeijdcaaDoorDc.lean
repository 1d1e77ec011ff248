/- Contract: segment.written of a scan's header. -/
import Derived.Test.YtnpkpikoeijdcaaDoorDb
set_option linter.unusedVariables false
set_option linter.unusedSimpArgs false
namespace Go.Proofs.YtnpkpikoeijdcaaDoor
open Go Go.RowKit

instance : Inhabited Pt := ⟨⟨0, 0, 0⟩⟩
def PtOk (p : Pt) : Prop := (0 ≤ p.dc ∧ p.dc ≤ 255) ∧ (0 ≤ p.ac ∧ p.ac ≤ 255)
theorem ptCells_length (p : Pt) : (ptCells p).length = 3 := rfl
theorem pts_read {w : World} {b off : Nat} {l : List Pt} (hc : ∀ j u, (ptsCells l)[j]? = some u → w.cell? ⟨b, off + j, none⟩ = some u) (k : Nat) (hk : k < l.length) :
    w.cell? ⟨b, off + k * 3, none⟩ = some (.int .i64 (l.getD k default).comp) ∧ w.cell? ⟨b, off + k * 3 + 1, none⟩ = some (.int .u8 (l.getD k default).dc) ∧
    w.cell? ⟨b, off + k * 3 + 2, none⟩ = some (.int .u8 (l.getD k default).ac) := by
  have h := fun j u hj => hc _ u (flat_at ptCells 3 ptCells_length l k _ (getElem?_getD l k hk) j u hj)
  refine ⟨?_, ?_, ?_⟩
  · exact h 0 _ rfl
  · have := h 1 _ rfl; rwa [← Nat.add_assoc] at this
  · have := h 2 _ rfl; rwa [← Nat.add_assoc] at this
theorem wrParts_succ : ∀ (k : Nat) (is : List Int) (ps : List Pt), k < is.length → k < ps.length →
    wrParts (is.take (k + 1)) (ps.take (k + 1)) = wrParts (is.take k) (ps.take k) ++ [is.getD k 0, 16 * (ps.getD k default).dc + (ps.getD k default).ac]
  | 0, i :: is, p :: ps, _, _ => by simp [wrParts]
  | k + 1, i :: is, p :: ps, h1, h2 => by
    have ih := wrParts_succ k is ps (by simpa using h1) (by simpa using h2)
    simp only [List.take_succ_cons] at *
    rw [wrParts, ih, wrParts]
    simp
  | _, [], _, h1, _ => by simp at h1
  | _, _ :: _, [], _, h2 => by simp at h2
theorem wrParts_len : ∀ (is : List Int) (ps : List Pt), (wrParts is ps).length ≤ 2 * ps.length
  | [], _ => by simp [wrParts]
  | _ :: _, [] => by simp [wrParts]
  | i :: is, p :: ps => by have := wrParts_len is ps; simp [wrParts]; omega
theorem any_take_bad (l : List Pt) (k : Nat) (h : k < l.length) (hb : pBad (l.getD k default) = true) : l.any pBad = true := by
  rw [List.any_eq_true]
  exact ⟨_, mem_getD l k h, hb⟩
theorem any_take_ok (l : List Pt) (k : Nat) (h : k < l.length) (h0 : (l.take k).any pBad = false) (hb : pBad (l.getD k default) = false) : (l.take (k + 1)).any pBad = false := by
  rw [List.take_succ_eq_append_getElem h, List.any_append, h0]
  simp [h] at hb
  simp [hb]

set_option maxHeartbeats 2000000 in
set_option maxRecDepth 100000 in
attribute [local go_sem ↓] b_append in
theorem written_sos (w : World) (B : Nat) (a ed kd wd ht rs : Int) (qv hv fv : Value) (ds : ByteArray) (ids : List Int) (parts : List Pt) (pA iA : Option Addr) (pc ic : Nat)
    (hrp : Rd w B 3 pA parts.length (ptsCells parts)) (hri : Rd w B 1 iA ids.length (u8s ids)) (hB : B ≤ w.heap.size) (hpl : parts.length ≤ pc) (hpm : pc ≤ maxLen) (hil : ids.length ≤ ic) (him : ic ≤ maxLen) (hpo : ∀ p ∈ parts, PtOk p) :
    Calls Tryd.prog 42 #[.agg #[.int .u8 218, .int .i64 a, .int .i64 ed, qv, hv, .int .u8 kd, .int .i64 wd, .int .i64 ht, fv, .slice pA parts.length pc, .slice iA ids.length ic, .int .i64 rs, .string ds]] w fun e w' =>
      WrPost w (wrScan ids parts) e w' := by
  have HRP := Lib.hid hrp
  have HRI := Lib.hid hri
  have HPO := Lib.hid hpo
  unfold maxLen at hpm him
  obtain ⟨R, hR⟩ : ∃ R, R = wrScan ids parts := ⟨_, rfl⟩
  have HR := Lib.hid hR
  rw [← hR]
  clear hR hrp hri hpo
  obtain ⟨n, hn⟩ : ∃ n, n = parts.length := ⟨_, rfl⟩
  obtain ⟨m, hm⟩ : ∃ m, m = ids.length := ⟨_, rfl⟩
  have HN := Lib.hid hn
  have HM := Lib.hid hm
  rw [← hn] at hpl ⊢
  rw [← hm] at hil ⊢
  clear hn hm
  by_cases h1 : n < 1
  · have HE : Hid (R = .error 155) := by rw [HR.out, wrScan, if_pos (.inl (by rw [← HN.out]; exact h1))]; exact Lib.hid rfl
    go_enter Tryd.func42, Tryd.ntmps42
    go_wp2
    go_ret2
    rw [HE.out]
    exact ⟨rfl, (Kp.refl _ _).alloc _⟩
  by_cases h4 : 4 < n
  · have HE : Hid (R = .error 155) := by rw [HR.out, wrScan, if_pos (.inr (.inl (by rw [← HN.out]; exact h4)))]; exact Lib.hid rfl
    go_enter Tryd.func42, Tryd.ntmps42
    go_wp2
    go_ret2
    rw [HE.out]
    exact ⟨rfl, (Kp.refl _ _).alloc _⟩
  by_cases hmn : m = n
  case neg =>
    have HE : Hid (R = .error 155) := by rw [HR.out, wrScan, if_pos (.inr (.inr (by rw [← HN.out, ← HM.out]; exact hmn)))]; exact Lib.hid rfl
    have hb : ((m : Int) != (n : Int)) = true := by simp; omega
    clear hmn
    go_enter Tryd.func42, Tryd.ntmps42
    go_wp2
    go_ret2
    rw [HE.out]
    exact ⟨rfl, (Kp.refl _ _).alloc _⟩
  subst hmn
  have HE : Hid (R = if parts.any pBad = true then .error 155 else .ok ((parts.length : Int) :: (wrParts ids parts ++ [0, 63, 0]))) := by
    rw [HR.out]
    conv => arg 1; lhs; unfold wrScan
    rw [if_neg (by rw [← HN.out, ← HM.out]; omega)]
    exact Lib.hid rfl
  obtain ⟨w1, hw1⟩ : ∃ w1, w1 = w.alloc (.cells #[.int .u8 218, .int .i64 a, .int .i64 ed, qv, hv, .int .u8 kd, .int .i64 wd, .int .i64 ht, fv, .slice pA m pc, .slice iA m ic, .int .i64 rs, .string ds] 30) := ⟨_, rfl⟩
  have hb1 : Blk w1 w.heap.size 30 #[.int .u8 218, .int .i64 a, .int .i64 ed, qv, hv, .int .u8 kd, .int .i64 wd, .int .i64 ht, fv, .slice pA m pc, .slice iA m ic, .int .i64 rs, .string ds] := by rw [hw1]; exact Blk.new _ _ _
  have hk1 : Kp Nn w w1 := by rw [hw1]; exact (Kp.refl _ _).alloc _
  have hsz1 : w1.heap.size = w.heap.size + 1 := by rw [hw1]; simp
  obtain ⟨ap1, g1, cap1, w2, ap2, ap3, hby, hk2, hat, hlt⟩ := by_new w1 (w.heap.size + 1) _ [] (By.nil _ _) [(m : Int)] (by simp) (by simp) (by omega)
  simp [u8s] at ap1 ap2 ap3
  have hmu : IntKind.u8.wrap (m : Int) = (m : Int) := by rw [wrap_u8]; omega
  rw [hsz1] at ap1 ap2 ap3
  rw [hw1] at ap1 ap2 ap3
  have hb2 := hb1.kp hk2 (by simp [Value.ownBlock])
  have hkw2 : Kp Nn w w2 := hk1.trans (hk2.mono (fun i _ h => by simp [Value.ownBlock] at h))
  have hby2 : By w2 (w.heap.size + 1) (.slice (some ⟨g1, 0, none⟩) 1 cap1) [(m : Int)] := hby
  have c9 : w2.cell? ⟨w.heap.size, 9, none⟩ = some (.slice pA m pc) := by rw [hb2.cell]; rfl
  have c10 : w2.cell? ⟨w.heap.size, 10, none⟩ = some (.slice iA m ic) := by rw [hb2.cell]; rfl
  have HB2 := Lib.hid hb2
  have HBY := Lib.hid hby2
  clear hw1 hb1 hk1 hsz1 hby hk2 hat hlt hb2 hby2 HR
  go_enter Tryd.func42, Tryd.ntmps42
  go_wp2
  clear c9 c10 ap1 ap2 ap3 hmu
  go_loopw [4, 211] (fun v i wr => ∃ (k : Nat), k ≤ m ∧ i = .int .i64 k ∧ Blk wr w.heap.size 30 #[.int .u8 218, .int .i64 a, .int .i64 ed, qv, hv, .int .u8 kd, .int .i64 wd, .int .i64 ht, fv, .slice pA m pc, .slice iA m ic, .int .i64 rs, .string ds] ∧
      By wr (w.heap.size + 1) v ((m : Int) :: wrParts (ids.take k) (parts.take k)) ∧ Kp Nn w wr ∧ Hid ((parts.take k).any pBad = false)) (fun _ i _ => m - (intOf i).toNat)
  case atStart => exact ⟨0, by omega, rfl, HB2.out, HBY.out, hkw2, rfl⟩
  case round =>
    obtain ⟨k, hk, rfl, hbr, hby, hkp, hall⟩ := hrel
    have HB := Lib.hid hbr
    have HY := Lib.hid hby
    by_cases hlt : k < m
    · have hkl : k < parts.length := by rw [← HN.out]; exact hlt
      have hki : k < ids.length := by rw [← HM.out]; exact hlt
      obtain ⟨b, off, rfl, hb, hc⟩ := HRP.out.at_ (by omega)
      obtain ⟨b', off', rfl, hb', hc'⟩ := HRI.out.at_ (by omega)
      obtain ⟨p0, p1, p2⟩ := pts_read hc k hkl
      have q0 := hc' k _ (u8s_get ids k hki)
      have hbw : b < w.heap.size := by omega
      have hbw' : b' < w.heap.size := by omega
      have d0 := hkp.cell' p0 (fun h => h)
      have d1 := hkp.cell' p1 (fun h => h)
      have d2 := hkp.cell' p2 (fun h => h)
      have dq := hkp.cell' q0 (fun h => h)
      have hpk := HPO.out _ (mem_getD parts k hkl)
      obtain ⟨p, hp⟩ : ∃ p, p = parts.getD k default := ⟨_, rfl⟩
      obtain ⟨y, hy⟩ : ∃ y, y = ids.getD k 0 := ⟨_, rfl⟩
      rw [← hp] at d0 d1 d2 hpk
      rw [← hy] at dq
      obtain ⟨⟨r1, r2⟩, r3, r4⟩ := hpk
      have HP := Lib.hid hp
      have HYY := Lib.hid hy
      clear hc hc' p0 p1 p2 q0 hp hy hbr hby
      by_cases hd : 3 < p.dc
      · have HE2 : Hid (R = .error 155) := by
          rw [HE.out, if_pos (any_take_bad parts k hkl (by rw [← HP.out]; simp [pBad, hd]))]; exact Lib.hid rfl
        go_wp2
        go_ret2
        rw [HE2.out]
        exact ⟨rfl, hkp.alloc _⟩
      by_cases ha : 3 < p.ac
      · have HE2 : Hid (R = .error 155) := by
          rw [HE.out, if_pos (any_take_bad parts k hkl (by rw [← HP.out]; simp [pBad, ha]))]; exact Lib.hid rfl
        go_wp2
        go_ret2
        rw [HE2.out]
        exact ⟨rfl, hkp.alloc _⟩
      have hall2 : Hid ((parts.take (k + 1)).any pBad = false) := any_take_ok parts k hkl hall.out (by rw [← HP.out]; simp [pBad]; omega)
      obtain ⟨z, hz, o1⟩ : ∃ z, z = 16 * p.dc + p.ac ∧ bits .or .u8 (p.dc * 16) p.ac = z := ⟨_, rfl, or_u8 _ _ r1 (by omega) r3 (by omega)⟩
      have HZ := Lib.hid hz
      clear hz
      go_wp2
      obtain ⟨w3, hw3⟩ : ∃ w3, w3 = wr.alloc (.cells #[.int .i64 p.comp, .int .u8 p.dc, .int .u8 p.ac] 69) := ⟨_, rfl⟩
      rw [← hw3]
      have hb3 : Blk w3 w.heap.size 30 #[.int .u8 218, .int .i64 a, .int .i64 ed, qv, hv, .int .u8 kd, .int .i64 wd, .int .i64 ht, fv, .slice (some ⟨b, off, none⟩) m pc, .slice (some ⟨b', off', none⟩) m ic, .int .i64 rs, .string ds] := by rw [hw3]; exact HB.out.alloc _
      have hy3 := HY.out.alloc (.cells #[.int .i64 p.comp, .int .u8 p.dc, .int .u8 p.ac] 69)
      rw [← hw3] at hy3
      have hq3 : Blk w3 wr.heap.size 69 #[.int .i64 p.comp, .int .u8 p.dc, .int .u8 p.ac] := by rw [hw3]; exact Blk.new _ _ _
      have hk3 : Kp Nn w w3 := by rw [hw3]; exact hkp.alloc _
      have hkr3 : Kp Nn wr w3 := by rw [hw3]; exact (Kp.refl _ _).alloc _
      have e3 := hkr3.cell' dq (fun h => h)
      clear hw3 d0 d1 d2 dq
      have c10 : w3.cell? ⟨w.heap.size, 10, none⟩ = some (.slice (some ⟨b', off', none⟩) m ic) := by rw [hb3.cell]; rfl
      have x1 : w3.cell? ⟨wr.heap.size, 1, none⟩ = some (.int .u8 p.dc) := by rw [hq3.cell]; rfl
      have x2 : w3.cell? ⟨wr.heap.size, 2, none⟩ = some (.int .u8 p.ac) := by rw [hq3.cell]; rfl
      have hlen := wrParts_len (ids.take k) (parts.take k)
      have hlen2 : (parts.take k).length ≤ 4 := by simp; omega
      obtain ⟨ap1, g1, cap1, w4, ap2, ap3, hby4, hk4, hat, hlt4⟩ := by_newd w3 (w.heap.size + 1) _ _ hy3 [y, z] (by simp) (by simp; omega) (by have := hb3.lt; omega)
      simp [u8s] at ap1 ap2 ap3
      have hown : ∀ i, u4.ownBlock = some i → w.heap.size + 1 ≤ i := fun i h => (hy3.lt _ h).1
      have n1 : u4.ownBlock ≠ some w.heap.size := fun h => by have := hown _ h; omega
      have n2 : u4.ownBlock ≠ some wr.heap.size := fun h => by have := (HY.out.lt _ h).2; omega
      have n3 : u4.ownBlock ≠ some b' := fun h => by have := hown _ h; omega
      have HB3 := Lib.hid hb3
      have HY4 := Lib.hid hby4
      have hkp4 : Kp Nn w w4 := Kp.comp hk3 hk4 (by
        intro i hi h
        rcases h with h | h
        · exact h
        · have := hown _ h; omega)
      clear hb3 hy3 hq3 hown hby4 hlen hlen2 hkr3
      refine wp_region_lex (fun w' => Kp (fun i => u4.ownBlock = some i) w3 w') 12 (by kernel_rfl) (by kernel_rfl) ((Kp.refl _ _).drew) ?_
      simp only [List.take_succ_cons, List.take_zero, List.drop_succ_cons, List.drop_zero]
      intro hsn hsx N hN
      have fx0 := fun x => (hsx x).cell' c10 n1
      have fx1 := fun x => (hsx x).cell' e3 n3
      have fx2 := fun x => (hsx x).cell' x1 n2
      have fx3 := fun x => (hsx x).cell' x2 n2
      clear hsx
      repeat (go_big_quiet_step (fail))
      refine wpQuiet_nil (hN _ ?_)
      clear hN N hsn fx0 fx1 fx2 fx3
      refine wpTl_act ?_
      intro N hN
      go_wp2
      refine hN _ _ (((Kp.refl _ _).alloc _).drew) ?_
      clear hN N
      refine wpTl_act ?_
      intro N hN
      go_wp2
      refine hN _ _ (hk4) ?_
      clear hN N
      refine wpTl_last ?_
      intro N hN
      go_wp2
      go_roundw
      case rel =>
        refine ⟨k + 1, by omega, by go_num, (HB3.out.kp hk4 n1), ?_, hkp4, hall2⟩
        rw [wrParts_succ k _ _ hki hkl, ← HYY.out, ← HP.out, ← HZ.out]
        exact HY4.out
      case measure => simp [intOf]; omega
    · have hkm : k = m := by omega
      subst hkm
      have HE2 : Hid (R = .ok ((k : Int) :: (wrParts ids parts ++ [0, 63, 0]))) := by
        have h := hall.out
        rw [List.take_of_length_le (by have := HN.out; omega)] at h
        rw [HE.out, if_neg (by simp [h]), ← HN.out]; exact Lib.hid rfl
      have hy2 := HY.out
      rw [List.take_of_length_le (by have := HM.out; omega), List.take_of_length_le (by have := HN.out; omega)] at hy2
      have hlen := wrParts_len ids parts
      obtain ⟨ap1, g1, cap1, w4, ap2, ap3, hby4, hk4, hat, hlt4⟩ := by_new wr (w.heap.size + 1) _ _ hy2 [0, 63, 0] (by simp) (by simp; have := HN.out; omega) (by have := HB.out.lt; omega)
      simp [u8s] at ap1 ap2 ap3
      have hkp4 : Kp Nn w w4 := Kp.comp hkp hk4 (by
        intro i hi h
        rcases h with h | h
        · exact h
        · have := (hy2.lt _ h).1; omega)
      have HY4 := Lib.hid hby4
      clear hy2 hby4 hbr hby hlt hlen
      go_wp2
      go_ret2
      rw [HE2.out]
      have := WrPost.by_ HY4.out hkp4
      simpa using this
end Go.Proofs.YtnpkpikoeijdcaaDoor
