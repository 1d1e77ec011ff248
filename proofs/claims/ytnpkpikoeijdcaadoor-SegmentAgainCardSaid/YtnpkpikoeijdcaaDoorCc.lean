/- Contracts: geom.most, geom.Check, segment.framed. -/
import Derived.Test.YtnpkpikoeijdcaaDoorCb
set_option linter.unusedVariables false
set_option linter.unusedSimpArgs false
namespace Go.Proofs.YtnpkpikoeijdcaaDoor
open Go Go.RowKit

def cmCells (c : Cm) : List Value := [.int .u8 c.id, .int .u8 c.h, .int .u8 c.v, .int .u8 c.q]
def cmsCells (l : List Cm) : List Value := l.flatMap cmCells
def CmOk (c : Cm) : Prop := (0 ≤ c.id ∧ c.id ≤ 255) ∧ (0 ≤ c.h ∧ c.h ≤ 255) ∧ (0 ≤ c.v ∧ c.v ≤ 255) ∧ (0 ≤ c.q ∧ c.q ≤ 255)
instance : Inhabited Cm := ⟨⟨0, 0, 0, 0⟩⟩
def frVal (f : Fr) (v : Value) : Value := .agg #[.int .u8 f.kind, .int .i64 f.width, .int .i64 f.height, v]

/-- The cells of element k of a list of records of so many cells each. -/
theorem flat_at {α : Type} (f : α → List Value) (m : Nat) (hm : ∀ x, (f x).length = m) : ∀ (l : List α) (k : Nat) (x : α), l[k]? = some x → ∀ j u, (f x)[j]? = some u → (l.flatMap f)[k * m + j]? = some u
  | [], k, x, h, _, _, _ => by simp at h
  | y :: l, 0, x, h, j, u, hj => by
    simp at h
    subst h
    have : j < (f y).length := by
      by_cases h : j < (f y).length
      · exact h
      · rw [List.getElem?_eq_none (by omega)] at hj; cases hj
    rw [List.flatMap_cons, List.getElem?_append_left (by omega)]
    simpa using hj
  | y :: l, k + 1, x, h, j, u, hj => by
    have ih := flat_at f m hm l k x (by simpa using h) j u hj
    rw [List.flatMap_cons, List.getElem?_append_right (by rw [hm, Nat.succ_mul]; omega), hm]
    rw [← ih]
    congr 1
    rw [Nat.succ_mul]
    omega
theorem cmCells_length (c : Cm) : (cmCells c).length = 4 := rfl
theorem getElem?_getD {α : Type} [Inhabited α] (l : List α) (k : Nat) (h : k < l.length) : l[k]? = some (l.getD k default) := by simp [h]
theorem drop_getD {α : Type} [Inhabited α] (t : List α) (k : Nat) (h : k < t.length) : t.drop k = t.getD k default :: t.drop (k + 1) := by
  rw [List.drop_eq_getElem_cons h]; simp [h]
theorem mem_getD {α : Type} [Inhabited α] (t : List α) (k : Nat) (h : k < t.length) : t.getD k default ∈ t := by
  rw [List.getD_eq_getElem?_getD, List.getElem?_eq_getElem h]; exact List.getElem_mem h

/-- A list of components that is read: the four cells of the k-th. -/
theorem cms_read {w : World} {b off : Nat} {l : List Cm} (hc : ∀ j u, (cmsCells l)[j]? = some u → w.cell? ⟨b, off + j, none⟩ = some u) (k : Nat) (hk : k < l.length) :
    w.cell? ⟨b, off + k * 4, none⟩ = some (.int .u8 (l.getD k default).id) ∧ w.cell? ⟨b, off + k * 4 + 1, none⟩ = some (.int .u8 (l.getD k default).h) ∧
    w.cell? ⟨b, off + k * 4 + 2, none⟩ = some (.int .u8 (l.getD k default).v) ∧ w.cell? ⟨b, off + k * 4 + 3, none⟩ = some (.int .u8 (l.getD k default).q) := by
  have h := fun j u hj => hc _ u (flat_at cmCells 4 cmCells_length l k _ (getElem?_getD l k hk) j u hj)
  refine ⟨?_, ?_, ?_, ?_⟩
  · exact h 0 _ rfl
  · have := h 1 _ rfl; rwa [← Nat.add_assoc] at this
  · have := h 2 _ rfl; rwa [← Nat.add_assoc] at this
  · have := h 3 _ rfl; rwa [← Nat.add_assoc] at this

set_option maxHeartbeats 2000000 in
theorem most_c (w : World) (B : Nat) (f : Fr) (A : Option Addr) (c : Nat) (hr : Rd w B 4 A f.comps.length (cmsCells f.comps)) (hm : f.comps.length ≤ 4) (ho : ∀ x ∈ f.comps, CmOk x) :
    Calls Tryd.prog 104 #[frVal f (.slice A f.comps.length c)] w fun e w' => e = .returned (.tuple #[.int .i64 (mostH f.comps 0), .int .i64 (mostV f.comps 0)]) ∧ Kp Nn w w' := by
  have HR := Lib.hid hr
  have HO := Lib.hid ho
  clear hr ho
  unfold frVal
  generalize f.comps = l at *
  go_enter Tryd.func104, Tryd.ntmps104
  go_wp2
  go_loopw [4, 5, 11] (fun h v i wr => ∃ (k : Nat) (hv vv : Int), k ≤ l.length ∧ i = .int .i64 k ∧ h = .int .i64 hv ∧ v = .int .i64 vv ∧ Hid (mostH (l.drop k) hv = mostH l 0) ∧ Hid (mostV (l.drop k) vv = mostV l 0) ∧ (0 ≤ hv ∧ hv ≤ 255 ∧ 0 ≤ vv ∧ vv ≤ 255) ∧ Kp Nn w wr) (fun _ _ i _ => l.length - (intOf i).toNat)
  case atStart => exact ⟨0, 0, 0, by omega, rfl, rfl, rfl, rfl, rfl, by omega, (Kp.refl _ _).alloc _⟩
  case round =>
    obtain ⟨k, hv, vv, hk, rfl, rfl, rfl, h1, h2, ⟨b1, b2, b3, b4⟩, hkp⟩ := hrel
    by_cases hlt : k < l.length
    · obtain ⟨b, off, rfl, hb, hc⟩ := HR.out.at_ (by omega)
      obtain ⟨c0, c1, c2, c3⟩ := cms_read hc k hlt
      have d0 := hkp.cell' c0 (fun h => h)
      have d1 := hkp.cell' c1 (fun h => h)
      have d2 := hkp.cell' c2 (fun h => h)
      have d3 := hkp.cell' c3 (fun h => h)
      have HD := Lib.hid (drop_getD l k hlt)
      obtain ⟨_, ⟨o1, o2⟩, ⟨o3, o4⟩, _⟩ := HO.out _ (mem_getD l k hlt)
      generalize l.getD k default = x at *
      have HC := Lib.hid hc
      clear c0 c1 c2 c3 hc
      go_wp2
      go_quiet (fail)
      go_wp2
      refine ⟨⟨k + 1, _, _, by omega, by go_num, rfl, rfl, ?_, ?_, ?_, (hkp.alloc _).drewN _⟩, by simp [intOf]; omega⟩
      · have := h1.out; rw [HD.out, mostH] at this; exact this
      · have := h2.out; rw [HD.out, mostV] at this; exact this
      · split <;> split <;> omega
    · go_wp2
      go_ret2
      have e1 := h1.out
      have e2 := h2.out
      rw [List.drop_of_length_le (by omega)] at e1 e2
      rw [mostH] at e1
      rw [mostV] at e2
      rw [← e1, ← e2]
      exact ⟨rfl, hkp⟩

theorem any_take_succ (p : Cm → Bool) (l : List Cm) (j : Nat) (h : j < l.length) (h0 : (l.take j).any p = false) (h1 : p (l.getD j default) = false) : (l.take (j + 1)).any p = false := by
  rw [List.take_succ_eq_append_getElem h, List.any_append, h0]
  simp [h] at h1
  simp [h1]
theorem any_take_hit (p : Cm → Bool) (l : List Cm) (j k : Nat) (h : j < k) (hk : k ≤ l.length) (h1 : p (l.getD j default) = true) : (l.take k).any p = true := by
  rw [List.any_eq_true]
  refine ⟨l.getD j default, ?_, h1⟩
  have hj : j < l.length := by omega
  rw [List.getD_eq_getElem?_getD, List.getElem?_eq_getElem hj]
  exact List.mem_take_iff_getElem.2 ⟨j, by omega, rfl⟩

theorem facBad_ok : ∀ (l : List Cm), facBad l = false → ∀ x ∈ l, (1 ≤ x.h ∧ x.h ≤ 4) ∧ (1 ≤ x.v ∧ x.v ≤ 4)
  | [], _, x, hx => by simp at hx
  | c :: r, h, x, hx => by
    rw [facBad] at h
    split at h
    · cases h
    · rcases List.mem_cons.1 hx with rfl | hx
      · omega
      · exact facBad_ok r h x hx
theorem mostH_nn : ∀ (l : List Cm) (h : Int), 0 ≤ h → 0 ≤ mostH l h ∧ h ≤ mostH l h
  | [], h, h0 => ⟨h0, Int.le_refl _⟩
  | c :: r, h, h0 => by rw [mostH]; have := mostH_nn r (if h < c.h then c.h else h) (by split <;> omega); split at this <;> split <;> simp_all <;> omega
theorem mostV_nn : ∀ (l : List Cm) (h : Int), 0 ≤ h → 0 ≤ mostV l h ∧ h ≤ mostV l h
  | [], h, h0 => ⟨h0, Int.le_refl _⟩
  | c :: r, h, h0 => by rw [mostV]; have := mostV_nn r (if h < c.v then c.v else h) (by split <;> omega); split at this <;> split <;> simp_all <;> omega

set_option maxHeartbeats 8000000 in
theorem gcheck_c (w : World) (B : Nat) (f : Fr) (A : Option Addr) (c : Nat) (hr : Rd w B 4 A f.comps.length (cmsCells f.comps)) (hm : f.comps.length ≤ maxLen) (hcap : f.comps.length ≤ c) (ho : ∀ x ∈ f.comps, CmOk x) (hB : B ≤ w.heap.size) :
    Calls Tryd.prog 95 #[frVal f (.slice A f.comps.length c)] w fun e w' => e = .returned (.int .i64 (gcheck f)) ∧ Kp Nn w w' := by
  have HR := Lib.hid hr
  have HO := Lib.hid ho
  have HF : Hid (frVal f (.slice A f.comps.length c) = frVal f (.slice A f.comps.length c)) := rfl
  have hg : gcheck f = gcheck f := rfl
  conv at hg => rhs; unfold gcheck
  have HG := Lib.hid hg
  unfold maxLen at hm
  generalize gcheck f = res at *
  clear hr ho hg
  have hmc := fun w0 (h : Rd w0 B 4 A f.comps.length (cmsCells f.comps)) (h4 : f.comps.length ≤ 4) => most_c w0 B f A c h h4 HO.out
  have HM := Lib.hid hmc
  clear hmc
  unfold frVal
  unfold frVal at HM
  generalize f.comps = l at *
  generalize f.width = fw at *
  generalize f.height = fh at *
  generalize f.kind = fk at *
  go_enter Tryd.func95, Tryd.ntmps95
  go_wp2_with fail
  all_goals try (
    go_ret
    refine ⟨ret_int ?_, (Kp.refl _ _).alloc _⟩
    rw [HG.out]
    clear HG HR HO HM HF
    repeat' split
    all_goals first | rfl | (exfalso; omega))
  have HG1 : Hid (res = if idsBad [] l = true then 143 else if facBad l = true then 141 else if ratBad (mostH l 0) (mostV l 0) l = true then 142 else 0) := by
    have := HG.out
    rw [if_neg (by omega), if_neg (by omega)] at this
    exact this
  have hn1 : 1 ≤ l.length := by omega
  have hn4 : l.length ≤ 4 := by omega
  clear HG HF
  obtain ⟨b, off, rfl, hbB, hc⟩ := HR.out.at_ (by omega)
  have HC := Lib.hid hc
  clear hc
  go_loopw [44] (fun i wr => ∃ (k : Nat), k ≤ l.length ∧ i = .int .i64 k ∧ Hid (idsBad (l.take k) (l.drop k) = idsBad [] l) ∧ Blk wr w.heap.size 26 #[.int .u8 fk, .int .i64 fw, .int .i64 fh, .slice (some ⟨b, off, none⟩) l.length c] ∧ Kp Nn w wr) (fun i _ => l.length - (intOf i).toNat)
  case atStart => exact ⟨0, by omega, rfl, rfl, Blk.new _ _ _, (Kp.refl _ _).alloc _⟩
  case round =>
    obtain ⟨k, hk, rfl, hq, hblk, hkp⟩ := hrel
    have hb3 : wr.cell? ⟨w.heap.size, 3, none⟩ = some (.slice (some ⟨b, off, none⟩) l.length c) := by rw [hblk.cell]; rfl
    have hzz := hblk.lt
    by_cases hlt : k < l.length
    · obtain ⟨c0, c1, c2, c3⟩ := cms_read HC.out k hlt
      have d0 := hkp.cell' c0 (fun h => h)
      have d1 := hkp.cell' c1 (fun h => h)
      have d2 := hkp.cell' c2 (fun h => h)
      have d3 := hkp.cell' c3 (fun h => h)
      have HD := Lib.hid (drop_getD l k hlt)
      obtain ⟨⟨o1, o2⟩, ⟨o3, o4⟩, ⟨o5, o6⟩, ⟨o7, o8⟩⟩ := HO.out _ (mem_getD l k hlt)
      have HT := Lib.hid (List.take_succ_eq_append_getElem hlt)
      have HX : Hid (l[k] = l.getD k default) := by simp [hlt, Hid]
      generalize l.getD k default = x at *
      clear c0 c1 c2 c3
      go_wp2
      obtain ⟨wo, rfl⟩ : ∃ wo : World, wo = wr := ⟨_, rfl⟩
      go_loopw [54] (fun i wi => ∃ (j : Nat), j ≤ k ∧ i = .int .i64 j ∧ Hid ((l.take j).any (fun o => o.id == x.id) = false) ∧ Blk wi w.heap.size 26 #[.int .u8 fk, .int .i64 fw, .int .i64 fh, .slice (some ⟨b, off, none⟩) l.length c] ∧ Blk wi wo.heap.size 121 #[.int .u8 x.id, .int .u8 x.h, .int .u8 x.v, .int .u8 x.q] ∧ Kp Nn w wi) (fun i _ => k - (intOf i).toNat)
      case atStart => exact ⟨0, by omega, rfl, by simp [Hid], hblk.alloc _, Blk.new _ _ _, hkp.alloc _⟩
      case round =>
        obtain ⟨j, hj, rfl, hany, hbf, hbx, hki⟩ := hrel
        have hx0 : wr.cell? ⟨wo.heap.size, 0, none⟩ = some (.int .u8 x.id) := by rw [hbx.cell]; rfl
        have hx3 : wr.cell? ⟨wo.heap.size, 3, none⟩ = some (.int .u8 x.q) := by rw [hbx.cell]; rfl
        have hzx := hbx.lt
        by_cases hjk : j < k
        · obtain ⟨c0, c1, c2, c3⟩ := cms_read HC.out j (by omega)
          have e0 := hki.cell' c0 (fun h => h)
          have e1 := hki.cell' c1 (fun h => h)
          have e2 := hki.cell' c2 (fun h => h)
          have e3 := hki.cell' c3 (fun h => h)
          clear c0 c1 c2 c3
          by_cases hid : (l.getD j default).id = x.id
          · have hid' : ((l.getD j default).id == x.id) = true := by simpa using hid
            have hhit := any_take_hit (fun o => o.id == x.id) l j k hjk hk hid'
            have HH := Lib.hid hhit
            clear hhit hid
            generalize l.getD j default = y at *
            go_wp2
            go_ret
            refine ⟨ret_int ?_, (hki.alloc _)⟩
            have := hq.out
            rw [HD.out, idsBad, if_pos HH.out] at this
            rw [HG1.out, ← this, if_pos rfl]
          · have hid' : ((l.getD j default).id == x.id) = false := by simpa using hid
            have HN := Lib.hid (any_take_succ (fun o => o.id == x.id) l j (by omega) hany.out hid')
            clear hid
            generalize l.getD j default = y at *
            go_wp2
            go_roundw
            case rel => exact ⟨j + 1, by omega, by go_num, HN, hbf.alloc _, hbx.alloc _, hki.alloc _⟩
            case measure => simp [intOf]; omega
        · have hjk' : j = k := by omega
          have HA : Hid ((l.take k).any (fun o => o.id == x.id) = false) := by rw [← hjk']; exact hany
          clear hjk' hany
          have HI : Hid (idsBad [] l = if 3 < x.q then true else idsBad (l.take k ++ [x]) (l.drop (k + 1))) := by
            have := hq.out
            rw [HD.out, idsBad, if_neg (by rw [HA.out]; simp)] at this
            exact this.symm
          go_wp2
          · go_ret
            refine ⟨ret_int ?_, hki⟩
            have h3 : 3 < x.q := by assumption
            rw [HG1.out, HI.out, if_pos h3, if_pos rfl]
          · go_roundw
            case rel =>
              refine ⟨k + 1, by omega, by go_num, ?_, hbf, hki⟩
              have h3 : ¬ 3 < x.q := by omega
              have := HI.out
              rw [if_neg h3] at this
              rw [HT.out, HX.out]
              exact this.symm
            case measure => simp [intOf]; omega
    · have HG2 : Hid (res = if facBad l = true then 141 else if ratBad (mostH l 0) (mostV l 0) l = true then 142 else 0) := by
        have h0 := hq.out
        rw [List.drop_of_length_le (by omega), idsBad] at h0
        have := HG1.out
        rw [← h0] at this
        exact this
      clear hq HG1
      have hb0 : wr.cell? ⟨w.heap.size, 0, none⟩ = some (.int .u8 fk) := by rw [hblk.cell]; rfl
      have hb1 : wr.cell? ⟨w.heap.size, 1, none⟩ = some (.int .i64 fw) := by rw [hblk.cell]; rfl
      have hb2 : wr.cell? ⟨w.heap.size, 2, none⟩ = some (.int .i64 fh) := by rw [hblk.cell]; rfl
      go_wp2_with fail
      refine (HM.out _ (HR.out.kp hkp hB (fun _ _ h => h)) hn4).mono ?_
      rintro e w1 ⟨rfl, hk1⟩
      have hbk1 := hblk.kp hk1 (fun h => h)
      have hkp1 := hkp.trans hk1
      have hc3 : w1.cell? ⟨w.heap.size, 3, none⟩ = some (.slice (some ⟨b, off, none⟩) l.length c) := by rw [hbk1.cell]; rfl
      clear hb0 hb1 hb2 hb3 hk1
      go_wp2
      go_loopw [76] (fun i wi => ∃ (k : Nat), k ≤ l.length ∧ i = .int .i64 k ∧ Hid (facBad (l.drop k) = facBad l) ∧ Blk wi w.heap.size 26 #[.int .u8 fk, .int .i64 fw, .int .i64 fh, .slice (some ⟨b, off, none⟩) l.length c] ∧ Kp Nn w wi) (fun i _ => l.length - (intOf i).toNat)
      case atStart => exact ⟨0, by omega, rfl, rfl, hbk1, hkp1⟩
      case round =>
        obtain ⟨k, hk, rfl, hq, hblk, hkp⟩ := hrel
        have hb3 : wr.cell? ⟨w.heap.size, 3, none⟩ = some (.slice (some ⟨b, off, none⟩) l.length c) := by rw [hblk.cell]; rfl
        have hzz := hblk.lt
        by_cases hlt : k < l.length
        · obtain ⟨c0, c1, c2, c3⟩ := cms_read HC.out k hlt
          have d0 := hkp.cell' c0 (fun h => h)
          have d1 := hkp.cell' c1 (fun h => h)
          have d2 := hkp.cell' c2 (fun h => h)
          have d3 := hkp.cell' c3 (fun h => h)
          have HD := Lib.hid (drop_getD l k hlt)
          obtain ⟨⟨o1, o2⟩, ⟨o3, o4⟩, ⟨o5, o6⟩, ⟨o7, o8⟩⟩ := HO.out _ (mem_getD l k hlt)
          generalize l.getD k default = x at *
          clear c0 c1 c2 c3
          by_cases hbad : x.h < 1 ∨ 4 < x.h ∨ x.v < 1 ∨ 4 < x.v
          · have HQ : Hid (facBad l = true) := by
              have := hq.out
              rw [HD.out, facBad, if_pos hbad] at this
              exact this.symm
            rcases hbad with h | h | h | h <;> go_wp2
            all_goals
              go_ret
              refine ⟨ret_int ?_, hkp.alloc _⟩
              rw [HG2.out, HQ.out, if_pos rfl]
          · have HQ : Hid (facBad (l.drop (k + 1)) = facBad l) := by
              have := hq.out
              rw [HD.out, facBad, if_neg hbad] at this
              exact this
            have g1 : 1 ≤ x.h := by omega
            have g2 : x.h ≤ 4 := by omega
            have g3 : 1 ≤ x.v := by omega
            have g4 : x.v ≤ 4 := by omega
            clear hbad
            go_wp2
            go_roundw
            case rel => exact ⟨k + 1, by omega, by go_num, HQ, hblk.alloc _, hkp.alloc _⟩
            case measure => simp [intOf]; omega
        · have HG3 : Hid (res = if ratBad (mostH l 0) (mostV l 0) l = true then 142 else 0) := by
            have h0 := hq.out
            rw [List.drop_of_length_le (by omega), facBad] at h0
            have := HG2.out
            rw [← h0] at this
            exact this
          have HFB : Hid (∀ x ∈ l, (1 ≤ x.h ∧ x.h ≤ 4) ∧ (1 ≤ x.v ∧ x.v ≤ 4)) := facBad_ok l (by
            have h0 := hq.out
            rw [List.drop_of_length_le (by omega), facBad] at h0
            exact h0.symm)
          clear hq HG2 HM
          obtain ⟨m1, _⟩ := mostH_nn l 0 (by omega)
          obtain ⟨m2, _⟩ := mostV_nn l 0 (by omega)
          generalize mostH l 0 = mh at *
          generalize mostV l 0 = mv at *
          go_wp2
          go_loopw [102] (fun i wi => ∃ (k : Nat), k ≤ l.length ∧ i = .int .i64 k ∧ Hid (ratBad mh mv (l.drop k) = ratBad mh mv l) ∧ Kp Nn w wi) (fun i _ => l.length - (intOf i).toNat)
          case atStart => exact ⟨0, by omega, rfl, rfl, hkp⟩
          case round =>
            obtain ⟨k, hk, rfl, hq, hkp⟩ := hrel
            by_cases hlt : k < l.length
            · obtain ⟨c0, c1, c2, c3⟩ := cms_read HC.out k hlt
              have d0 := hkp.cell' c0 (fun h => h)
              have d1 := hkp.cell' c1 (fun h => h)
              have d2 := hkp.cell' c2 (fun h => h)
              have d3 := hkp.cell' c3 (fun h => h)
              have HD := Lib.hid (drop_getD l k hlt)
              obtain ⟨⟨g1, g2⟩, ⟨g3, g4⟩⟩ := HFB.out _ (mem_getD l k hlt)
              generalize l.getD k default = x at *
              clear c0 c1 c2 c3
              by_cases hbad : mh % x.h ≠ 0 ∨ mv % x.v ≠ 0
              · have HQ : Hid (ratBad mh mv l = true) := by
                  have := hq.out
                  rw [HD.out, ratBad, if_pos hbad] at this
                  exact this.symm
                by_cases hh : mh % x.h = 0
                · have hv : ¬ mv % x.v = 0 := by omega
                  have t1 : (mh % x.h != 0) = false := by simp [hh]
                  have t2 : (mv % x.v != 0) = true := by simp [hv]
                  clear hbad hh hv
                  go_wp2
                  go_ret
                  refine ⟨ret_int ?_, hkp.alloc _⟩
                  rw [HG3.out, HQ.out, if_pos rfl]
                · have t1 : (mh % x.h != 0) = true := by simp [hh]
                  clear hbad hh
                  go_wp2
                  go_ret
                  refine ⟨ret_int ?_, hkp.alloc _⟩
                  rw [HG3.out, HQ.out, if_pos rfl]
              · have HQ : Hid (ratBad mh mv (l.drop (k + 1)) = ratBad mh mv l) := by
                  have := hq.out
                  rw [HD.out, ratBad, if_neg hbad] at this
                  exact this
                have t1 : (mh % x.h != 0) = false := by simp; omega
                have t2 : (mv % x.v != 0) = false := by simp; omega
                clear hbad
                go_wp2
                go_roundw
                case rel => exact ⟨k + 1, by omega, by go_num, HQ, hkp.alloc _⟩
                case measure => simp [intOf]; omega
            · have HQ : Hid (ratBad mh mv l = false) := by
                have h0 := hq.out
                rw [List.drop_of_length_le (by omega), ratBad] at h0
                exact h0.symm
              clear hq
              go_wp2
              go_ret
              refine ⟨ret_int ?_, hkp⟩
              rw [HG3.out, HQ.out]
              simp
end Go.Proofs.YtnpkpikoeijdcaaDoor
