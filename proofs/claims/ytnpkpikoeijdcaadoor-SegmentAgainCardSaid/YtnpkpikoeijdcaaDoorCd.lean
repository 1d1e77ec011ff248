/- Contracts: segment.framed, segment.readQuant. -/
import Derived.Test.YtnpkpikoeijdcaaDoorCc
import Derived.Test.YtnpkpikoeijdcaaDoorOps
set_option linter.unusedVariables false
set_option linter.unusedSimpArgs false
namespace Go.Proofs.YtnpkpikoeijdcaaDoor
open Go Go.RowKit

set_option maxHeartbeats 2000000 in
theorem framed_c (w : World) (B : Nat) (f : Fr) (A : Option Addr) (c : Nat) (hr : Rd w B 4 A f.comps.length (cmsCells f.comps)) (hm : f.comps.length ≤ maxLen) (hcap : f.comps.length ≤ c) (ho : ∀ x ∈ f.comps, CmOk x) (hB : B ≤ w.heap.size) :
    Calls Tryd.prog 68 #[frVal f (.slice A f.comps.length c)] w fun e w' => e = .returned (.int .i64 (framedS f)) ∧ Kp Nn w w' := by
  have hgc := fun w0 (h : Rd w0 B 4 A f.comps.length (cmsCells f.comps)) (h4 : B ≤ w0.heap.size) => gcheck_c w0 B f A c h hm hcap ho h4
  have HM := Lib.hid hgc
  have HR := Lib.hid hr
  have hg : framedS f = framedS f := rfl
  conv at hg => rhs; unfold framedS
  have HG := Lib.hid hg
  generalize framedS f = res at *
  generalize gcheck f = gc at *
  clear hgc hr ho hm hcap hg
  unfold frVal
  unfold frVal at HM
  generalize f.comps = l at *
  generalize f.width = fw at *
  generalize f.height = fh at *
  generalize f.kind = fk at *
  by_cases h0 : fh = 0
  · have h0' : (fh == 0) = true := by simp [h0]
    have H0 := Lib.hid h0
    clear h0
    go_enter Tryd.func68, Tryd.ntmps68
    go_wp2_with fail
    go_ret
    refine ⟨ret_int ?_, (Kp.refl _ _).alloc _⟩
    rw [HG.out, if_pos H0.out]
  · have h0' : (fh == 0) = false := by simp [h0]
    have H0 := Lib.hid h0
    clear h0
    go_enter Tryd.func68, Tryd.ntmps68
    go_wp2_with fail
    refine (HM.out _ (HR.out.alloc hB _) (by simp; omega)).mono ?_
    rintro e w1 ⟨rfl, hk1⟩
    go_wp2
    all_goals
      go_ret
      refine ⟨ret_int ?_, ((Kp.refl _ _).alloc _).trans hk1⟩
      rw [HG.out, if_neg H0.out]
      simp only [beq_iff_eq, beq_eq_false_iff_ne, ne_eq, bne_iff_ne, bne_eq_false_iff_eq] at *
      repeat' split
      all_goals first | rfl | (exfalso; omega) | omega

def qCells (id : Int) (wide : Bool) (tab : List Int) : List Value := .int .u8 id :: .bool wide :: u16s tab
def qz (x : Int) (y : Bool) : List Value := qCells x y (List.replicate 64 0)
theorem qCells_len {x : Int} {y : Bool} {t : List Int} (h : t.length = 64) : (qCells x y t).length = 66 := by simp [qCells, u16s, h]
theorem qCells_one (x : Int) (y : Bool) (t : List Int) : ∀ v ∈ qCells x y t, v.oneCell' = true := by simp [qCells, u16s, Value.oneCell']
theorem qz_len (x : Int) (y : Bool) : (qz x y).length = 66 := qCells_len (by simp)
theorem qz_one (x : Int) (y : Bool) : ∀ v ∈ qz x y, v.oneCell' = true := qCells_one _ _ _
theorem ty_quant : AggTy Tryd.prog 103 66 := by show aggOk _ _ _ = true; kernel_rfl
theorem zc103 : Tryd.zeroCells103 = (qz 0 false).toArray := by kernel_rfl
theorem quant_info0 : (Tryd.prog.info? 103).map (fun i => (i.zero, i.size, i.bytes)) = some (some (.agg Tryd.zeroCells103), 66, 130) := by kernel_rfl
theorem quant_info : ∃ i0, Tryd.prog.info? 103 = some i0 ∧ i0.zero = some (.agg Tryd.zeroCells103) ∧ i0.size = 66 ∧ i0.bytes = 130 := info_parts quant_info0
theorem q_load : type_of% (@ex_load Tryd.prog 103 66 ty_quant) := @ex_load Tryd.prog 103 66 ty_quant
theorem q_store : type_of% (@ex_store Tryd.prog 103 66 ty_quant) := @ex_store Tryd.prog 103 66 ty_quant
theorem qz_set (x : Int) (y : Bool) : (Tryd.zeroCells103.setIfInBounds 0 (.int .u8 x)).setIfInBounds 1 (.bool y) = (qz x y).toArray := by
  rw [zc103]; simp [qz, qCells]
theorem zc103_size : Tryd.zeroCells103.size = 66 := by rw [zc103]; simp [qz_len]
theorem q_okSt (w : World) (x : Int) (y : Bool) : okSt (w.alloc (.cells Tryd.zeroCells103 103)) w.heap.size 0 66 ((Tryd.zeroCells103.setIfInBounds 0 (.int .u8 x)).setIfInBounds 1 (.bool y)) = true :=
  okSt_new _ _ _ _ _ zc103_size (by rw [qz_set]; simp [qz_len]) (by rw [qz_set]; exact fun v hv => qz_one x y v (by simpa using hv))
theorem q_fresh (w : World) (x : Int) (y : Bool) : wrRow (w.alloc (.cells Tryd.zeroCells103 103)) w.heap.size 0 ((Tryd.zeroCells103.toList.set 0 (.int .u8 x)).set 1 (.bool y)) = w.alloc (.cells (qz x y).toArray 103) := by
  have e : (Tryd.zeroCells103.toList.set 0 (.int .u8 x)).set 1 (.bool y) = qz x y := by
    rw [zc103]; simp [qz, qCells]
  rw [e, wrRow_new _ _ _ _ _ rfl (by rw [zc103_size, qz_len])]
theorem q_slice (ρ : Operand → Value) (dst : Option Tmp) (x : Operand) (ty' : TypeId) (pos : String) (after : Array Edge) (guard : Option (Nat × Bool)) (w : World) :
    Sem.run Tryd.prog (execOp ρ ⟨dst, .buildSlice 22 1 #[(0, x)], ty', pos, after, guard⟩) w = (match ρ x with
      | .agg a => if a.size = 66 then .ok (.value (.slice (some ⟨w.heap.size, 0, none⟩) 1 1)) (w.alloc (.cells a 103)) else orRun Tryd.prog ρ ⟨dst, .buildSlice 22 1 #[(0, x)], ty', pos, after, guard⟩ w
      | _ => orRun Tryd.prog ρ ⟨dst, .buildSlice 22 1 #[(0, x)], ty', pos, after, guard⟩ w) := by
  obtain ⟨i0, hi0, hz0, hz1, _⟩ := quant_info
  exact ex_buildSlice Tryd.underlying22 i0 hi0 hz1 _ hz0 zc103_size (by omega) (by omega) ρ dst x ty' pos after guard w
/-- What reading a table of steps leaves. -/
def QuantPost (w : World) (gs gb base n : Nat) (c : Value → Array Value) (c3 : Value) (xs : List Value) (r : Except Int (Qt × List Int)) (e : Ending) (w' : World) : Prop :=
  match r with
  | .error er => e = .returned (.int .i64 er) ∧ Kp (fun i => i = gs ∨ i = gb ∨ c3.ownBlock = some i) w w'
  | .ok (q, rest) => e = .returned (.int .i64 0) ∧ ∃ str' c3', bl str' = rest ∧ Blk w' gb 135 #[.string str'] ∧ Blk w' gs 30 (c c3') ∧
      w'.ownsRow base 103 66 c3' (n + 1) (xs ++ qCells q.id q.wide q.tab) ∧ Kp (fun i => i = gs ∨ i = gb ∨ c3.ownBlock = some i) w w'

theorem or_u16_nat (a x : Nat) (ha : a ≤ 255) (hx : x ≤ 255) : bits .or .u16 (a * 256 : Nat) (x : Nat) = ((a * 256 + x : Nat) : Int) := by
  rw [u16_or_nat (a * 256) x (by omega) (by omega), nat_join8 (a * 256) x (by omega) (by omega)]
theorem or_u16 (a x : Int) (ha : 0 ≤ a) (ha2 : a ≤ 255) (hx : 0 ≤ x) (hx2 : x ≤ 255) : bits .or .u16 (a * 256) x = a * 256 + x := by
  obtain ⟨a, rfl⟩ := Int.eq_ofNat_of_zero_le ha
  obtain ⟨x, rfl⟩ := Int.eq_ofNat_of_zero_le hx
  have h := or_u16_nat a x (by omega) (by omega)
  rw [Int.natCast_add, Int.natCast_mul] at h
  exact h
theorem wrap_u16 (x : Int) (hx : 0 ≤ x) (hx2 : x ≤ 65535) : IntKind.u16.wrap x = x := by
  have : IntKind.u16.wrap x = x % 65536 := by simp [IntKind.wrap, IntKind.bits, IntKind.signed]
  rw [this]; omega
theorem or_u16_0 (x : Int) (hx : 0 ≤ x) (hx2 : x ≤ 255) : bits .or .u16 0 (IntKind.u16.wrap x) = x := by
  rw [wrap_u16 x hx (by omega)]
  have := or_u16 0 x (by omega) (by omega) hx hx2
  simpa using this

def ent (s : Nat) (l : List Int) (k : Nat) : Int := if s = 1 then l.getD k 0 else l.getD (2 * k) 0 * 256 + l.getD (2 * k + 1) 0
def part (s : Nat) (l : List Int) (k i : Nat) : Int := if i = 0 then 0 else if i = 1 then l.getD (k * s) 0 else l.getD (2 * k) 0 * 256 + l.getD (2 * k + 1) 0
theorem part_full (s : Nat) (l : List Int) (k : Nat) (hs : s = 1 ∨ s = 2) : part s l k s = ent s l k := by
  rcases hs with rfl | rfl <;> simp [part, ent]
theorem part_range (s : Nat) (l : List Int) (k i : Nat) (hr : ∀ i, 0 ≤ l.getD i 0 ∧ l.getD i 0 ≤ 255) : 0 ≤ part s l k i ∧ part s l k i ≤ 65535 := by
  unfold part
  have h1 := hr (k * s)
  have h2 := hr (2 * k)
  have h3 := hr (2 * k + 1)
  split
  · omega
  · split <;> omega
theorem part_succ (s : Nat) (l : List Int) (k j : Nat) (hs : s = 1 ∨ s = 2) (hj : j < s) (hr : ∀ i, 0 ≤ l.getD i 0 ∧ l.getD i 0 ≤ 255) :
    part s l k (j + 1) = bits .or .u16 (IntKind.u16.wrap (part s l k j * 256)) (IntKind.u16.wrap (l.getD (k * s + j) 0)) := by
  have h1 := hr (k * s)
  have h2 := hr (2 * k)
  have h3 := hr (2 * k + 1)
  have hj' : j = 0 ∨ (j = 1 ∧ s = 2) := by omega
  rcases hj' with rfl | ⟨rfl, rfl⟩
  · have e : part s l k 0 = 0 := rfl
    rw [e]
    have e2 : IntKind.u16.wrap (0 * 256) = 0 := by decide
    have e4 : k * s + 0 = k * s := rfl
    rw [e2, e4, or_u16_0 _ h1.1 h1.2]
    simp [part]
  · have e : part 2 l k 1 = l.getD (2 * k) 0 := by simp [part, Nat.mul_comm]
    have e3 : k * 2 + 1 = 2 * k + 1 := by omega
    rw [e, e3, wrap_u16 _ (by omega) (by omega), wrap_u16 _ (by omega) (by omega), or_u16 _ _ h2.1 h2.2 h3.1 h3.2]
    simp [part]
theorem part_full1 (l : List Int) (k : Nat) : part 1 l k 1 = ent 1 l k := by simp [part, ent]
theorem part_full2 (l : List Int) (k : Nat) : part 2 l k 2 = ent 2 l k := by simp [part, ent]
def tabTo (s : Nat) (l : List Int) (k : Nat) : List Int := (List.range 64).map fun j => if j < k then ent s l j else 0
theorem tabTo_len (s : Nat) (l : List Int) (k : Nat) : (tabTo s l k).length = 64 := by simp [tabTo]
theorem tabTo_zero (s : Nat) (l : List Int) : tabTo s l 0 = List.replicate 64 0 := by
  unfold tabTo
  apply List.ext_getElem?
  intro j
  by_cases h : j < 64
  · rw [List.getElem?_replicate, if_pos h]; simp [h]
  · rw [List.getElem?_replicate, if_neg h]; simp [h]
theorem tabTo_full (s : Nat) (l : List Int) : tabTo s l 64 = qTab s l := by
  unfold tabTo qTab
  refine List.map_congr_left fun j hj => ?_
  rw [if_pos (List.mem_range.1 hj)]
  rfl
theorem qCells_set (x : Int) (y : Bool) (t : List Int) (k : Nat) (v : Int) : (qCells x y t).toArray.setIfInBounds (2 + k) (.int .u16 v) = (qCells x y (t.set k v)).toArray := by
  have e : 2 + k = k + 1 + 1 := by omega
  rw [e]
  simp [qCells, u16s, List.map_set]
theorem qCells_at (x : Int) (y : Bool) (t : List Int) (k : Nat) (h : k < t.length) : (qCells x y t).toArray[2 + k]? = some (.int .u16 (t.getD k 0)) := by
  have e : 2 + k = k + 1 + 1 := by omega
  rw [e]
  simp [qCells, u16s, h]
theorem tabTo_set_zero (s : Nat) (l : List Int) (k : Nat) (hk : k < 64) : (tabTo s l k).set k 0 = tabTo s l k := by
  apply List.ext_getElem?
  intro j
  rw [List.getElem?_set]
  by_cases h : k = j
  · subst h; simp [tabTo, hk]
  · rw [if_neg h]
theorem tabTo_succ (s : Nat) (l : List Int) (k : Nat) (hk : k < 64) : (tabTo s l k).set k (ent s l k) = tabTo s l (k + 1) := by
  apply List.ext_getElem?
  intro j
  rw [List.getElem?_set]
  by_cases h : k = j
  · subst h; simp [tabTo, hk]
  · rw [if_neg h]
    by_cases hj : j < 64
    · have : (j < k) ↔ (j < k + 1) := by omega
      simp [tabTo, hj, this]
    · simp [tabTo, hj]


set_option maxHeartbeats 8000000 in
set_option maxRecDepth 100000 in
attribute [local go_sem ↓] q_load q_store q_slice in
attribute [local go_sem] q_okSt q_fresh rdRow_drew in
theorem readQuant_c (w : World) (gs gb base n : Nat) (first : Int) (h0 : 0 ≤ first) (h1 : first ≤ 31) (str : ByteArray) (hb : Blk w gb 135 #[.string str]) (hs : (str.size : Int) ≤ 1000000)
    (c0 c1 c2 c3 c4 c5 c6 c7 c8 c9 c10 c11 c12 : Value) (hsg : Blk w gs 30 #[c0, c1, c2, c3, c4, c5, c6, c7, c8, c9, c10, c11, c12])
    (xs : List Value) (hown : w.ownsRow base 103 66 c3 n xs) (hn : n ≤ 1000000) (hbase : base ≤ w.heap.size) :
    Calls Tryd.prog 71 #[.pointer (some ⟨gs, 0, none⟩), .pointer (some ⟨gb, 0, none⟩), .int .u8 first] w fun e w' =>
      QuantPost w gs gb base n (fun x => #[c0, c1, c2, x, c4, c5, c6, c7, c8, c9, c10, c11, c12]) c3 xs (rdQuant first (bl str)) e w' := by
  have hb0 := hb.cell 0
  have hbf := hb.frozen 0
  have hbl := hb.lt
  simp at hb0
  have HB := Lib.hid hb
  clear hb
  have hsg3 := hsg.cell 3
  have hsgf := hsg.frozen 3
  have hsgl := hsg.lt
  simp at hsg3
  have HSG := Lib.hid hsg
  have HO := Lib.hid hown
  clear hsg hown
  have hh : first / 16 = 0 ∨ first / 16 = 1 := by omega
  by_cases hlen : (str.size : Int) < 64 * (1 + first / 16)
  · have hspec : rdQuant first (bl str) = .error 152 := by
      unfold rdQuant
      rw [if_pos (by rw [bl_length]; omega)]
    have HSP := Lib.hid hspec
    clear hspec
    go_enter Tryd.func71, Tryd.ntmps71
    go_wp2_with fail
    refine (take_no _ gb str _ (by rw [World.cell?_alloc_past _ _ _ hbl]; exact hb0) hlen).mono ?_
    rintro e w1 ⟨rfl, rfl⟩
    go_wp2
    go_ret
    rw [HSP.out]
    exact ⟨rfl, (Kp.refl _ _).alloc _⟩
  · have hspec : rdQuant first (bl str) = if qcheck (first / 16 == 1) (qTab (1 + first / 16).toNat (bl str)) 0 ≠ 0 then .error 153 else .ok (⟨first % 16, first / 16 == 1, qTab (1 + first / 16).toNat (bl str)⟩, (bl str).drop (64 * (1 + first / 16).toNat)) := by
      conv => lhs; unfold rdQuant
      rw [if_neg (by rw [bl_length]; omega)]
    have HSP := Lib.hid hspec
    clear hspec
    go_enter Tryd.func71, Tryd.ntmps71
    go_wp2_with fail
    refine (take_yes _ gb str _ (by rw [World.cell?_alloc_past _ _ _ hbl]; exact hb0) (by rw [World.frozen?_alloc_past _ _ _ hbl]; exact hbf) (by omega) (by omega)).mono ?_
    rintro e w1 ⟨rfl, rfl⟩
    obtain ⟨w1, hw1⟩ : ∃ w1, w1 = (w.alloc (.cells (qz (first % 16) (first / 16 == 1)).toArray 103)).setCell ⟨gb, 0, none⟩ (.string (str.extract (64 * (1 + first / 16)).toNat str.size)) := ⟨_, rfl⟩
    rw [← hw1]
    have HW := Lib.hid hw1
    clear hw1
    obtain ⟨ls, hls⟩ : ∃ ls, ls = str.extract 0 (64 * (1 + first / 16)).toNat := ⟨_, rfl⟩
    rw [← hls]
    have HL := Lib.hid hls
    clear hls
    have hlsz : ls.size = (64 * (1 + first / 16)).toNat := by rw [HL.out]; simp; omega
    have hq : Blk w1 w.heap.size 103 (qz (first % 16) (first / 16 == 1)).toArray := by
      rw [HW.out]; exact (Blk.new _ _ _).far (by simp; omega) _
    have hkw : Kp (fun i => i = gb) w w1 := by
      rw [HW.out]; exact Kp.setCell (S := fun i => i = gb) ((Kp.refl _ _).alloc _) (.inl rfl) _
    have HTB : Hid (∀ s : Nat, s = (1 + first / 16).toNat → qTab s (bl str) = qTab s (bl ls)) := by
      intro s hs'
      rw [HL.out, bl_take]
      unfold qTab
      refine List.map_congr_left fun j hj => ?_
      have := List.mem_range.1 hj
      have g : ∀ i, i < (64 * (1 + first / 16)).toNat → ((bl str).take (64 * (1 + first / 16)).toNat).getD i 0 = (bl str).getD i 0 := fun i hi => by
        rw [List.getD_eq_getElem?_getD, List.getD_eq_getElem?_getD, List.getElem?_take, if_pos hi]
      rcases hh with hh | hh
      · have : s = 1 := by omega
        subst this
        rw [if_pos rfl, if_pos rfl, g _ (by omega)]
      · have : s = 2 := by omega
        subst this
        rw [if_neg (by omega), if_neg (by omega), g _ (by omega), g _ (by omega)]
    have hbk : Blk w1 gb 135 #[.string (str.extract (64 * (1 + first / 16)).toNat str.size)] := by
      rw [HW.out]; exact (HB.out.alloc _).set_ 0 _
    have hne : gs ≠ gb := HSG.out.ne_ HB.out (by decide)
    have hsk : Blk w1 gs 30 #[c0, c1, c2, c3, c4, c5, c6, c7, c8, c9, c10, c11, c12] := HSG.out.kp hkw hne
    obtain ⟨s, hsv, hs12⟩ : ∃ s : Nat, 1 + first / 16 = (s : Int) ∧ (s = 1 ∨ s = 2) := by
      rcases hh with hh | hh
      · exact ⟨1, by omega, .inl rfl⟩
      · exact ⟨2, by omega, .inr rfl⟩
    have hfq : first / 16 = (s : Int) - 1 := by omega
    have hsn : (1 + first / 16).toNat = s := by omega
    have hst : (64 * (1 + first / 16)).toNat = 64 * s := by omega
    have hq' : Blk w1 w.heap.size 103 (qCells (first % 16) (first / 16 == 1) (tabTo s (bl ls) 0)).toArray := by
      rw [tabTo_zero]; exact hq
    have HTB' := Lib.hid (HTB.out s hsn.symm)
    rw [hst] at hbk hlsz
    have hG : rdQuant first (bl str) = if qcheck (first / 16 == 1) (qTab s (bl ls)) 0 ≠ 0 then .error 153 else .ok (⟨first % 16, first / 16 == 1, qTab s (bl ls)⟩, (bl str).drop (64 * s)) := by
      rw [HSP.out, hsn, HTB'.out]
    have HG := Lib.hid hG
    have HLS := Lib.hid hlsz
    have HFQ := Lib.hid hfq
    have HSV := Lib.hid hsv
    have HH := Lib.hid hh
    have HST := Lib.hid hst
    clear hlsz hq HTB HTB' HSP hst hsn hfq hh hG
    generalize hlo : first % 16 = lo at *
    have HLO := Lib.hid hlo
    clear hlo
    generalize hwd : (first / 16 == 1) = wide at *
    have HWD := Lib.hid hwd
    clear hwd
    rw [hsv]
    clear hsv
    go_wp2
    go_loopw [32] (fun i wr => ∃ k : Nat, k ≤ 64 ∧ i = .int .i64 k ∧ Blk wr w.heap.size 103 (qCells lo wide (tabTo s (bl ls) k)).toArray ∧ Kp (fun i => i = w.heap.size) w1 wr) (fun i _ => 64 - (intOf i).toNat)
    case atStart => exact ⟨0, by omega, rfl, hq', Kp.refl _ _⟩
    case round =>
      obtain ⟨k, hk, rfl, hblk, hkp⟩ := hrel
      by_cases hlt : k < 64
      · go_wp2
        have hdk : decide ((k : Int) < 64) = true := decide_eq_true (by omega)
        rw [hdk]
        obtain ⟨wo, rfl⟩ : ∃ wo : World, wo = wr := ⟨_, rfl⟩
        go_loopw [36] (fun i wi => ∃ j : Nat, j ≤ s ∧ i = .int .i64 j ∧ Blk wi w.heap.size 103 (qCells lo wide ((tabTo s (bl ls) k).set k (part s (bl ls) k j))).toArray ∧ Kp (fun i => i = w.heap.size) w1 wi) (fun i _ => s - (intOf i).toNat)
        case atStart => exact ⟨0, by omega, rfl, by rw [part, if_pos rfl, tabTo_set_zero _ _ _ hlt]; exact hblk, hkp⟩
        case round =>
          obtain ⟨j, hj, rfl, hbj, hkj⟩ := hrel
          by_cases hj1 : j < s
          · have hcl : wr.cell? ⟨w.heap.size, 2 + k, none⟩ = some (.int .u16 (part s (bl ls) k j)) := by
              rw [hbj.cell, qCells_at _ _ _ _ (by simp [tabTo_len, hlt])]
              simp [tabTo_len, hlt]
            have hfz := hbj.frozen (2 + k)
            have hks : k * s + j < 64 * s := by
              rcases hs12 with rfl | rfl <;> omega
            have hks2 : k * s + j < 128 := by
              rcases hs12 with rfl | rfl <;> omega
            have hlsz := HLS.out
            obtain ⟨m, hm⟩ : ∃ m : Nat, m = k * s + j := ⟨_, rfl⟩
            have HMM := Lib.hid hm
            have i1 : IntKind.i64.wrap (IntKind.i64.wrap ((k : Int) * (s : Int)) + (j : Int)) = (m : Int) := by
              rw [IntWalk.i64_in ((k : Int) * (s : Int)) (by rw [← Int.natCast_mul]; omega), ← Int.natCast_mul, ← Int.natCast_add, ← hm]; exact IntWalk.i64_in _ (by omega)
            have i2 : (0 : Int) ≤ (m : Int) := by omega
            have i4 : ((m : Int)).toNat = m := by omega
            have i3 : (m : Int) < (ls.size : Int) := by omega
            have i5 : (0 : Int) ≤ (k : Int) := by omega
            have i6 : ((k : Int)).toNat = k := by omega
            have hidx : m < ls.size := by omega
            have hv := bl_get ls m hidx
            have hr := bl_range ls m
            have HVV := Lib.hid hv
            have HR := Lib.hid hr
            generalize hpt : part s (bl ls) k j = pt at *
            have HPT := Lib.hid hpt
            clear hv hr hks hks2 hlsz hpt hm
            go_wp2
            go_region
            go_wp2
            all_goals
              go_roundw
              case rel =>
                refine ⟨j + 1, by omega, by go_num, ?_, (hkj.setCell (.inl rfl) _).drew⟩
                have hh := hbj.set_ (2 + k) (.int .u16 (bits .or .u16 (IntKind.u16.wrap (pt * 256)) (IntKind.u16.wrap ((bl ls).getD m 0))))
                rw [qCells_set, List.set_set] at hh
                rw [part_succ s (bl ls) k j hs12 hj1 (bl_range ls), HPT.out, ← HMM.out, ← HVV.out]
                rw [← HVV.out] at hh
                exact hh.drew
              case measure => simp [intOf]; omega
          · have hjs : j = s := by omega
            have hb2 : Blk wr w.heap.size 103 (qCells lo wide (tabTo s (bl ls) (k + 1))).toArray := by
              rw [← tabTo_succ _ _ _ hlt]
              rw [hjs, part_full _ _ _ hs12] at hbj
              exact hbj
            clear hjs hbj
            go_wp2
            go_roundw
            case rel => exact ⟨k + 1, by omega, by go_num, hb2, hkj⟩
            case measure => simp [intOf]; omega
      · have hk64 : k = 64 := by omega
        have hbq : Blk wr w.heap.size 103 (qCells lo wide (qTab s (bl ls))).toArray := by
          rw [hk64, tabTo_full] at hblk; exact hblk
        clear hk64 hblk
        have hc1 : wr.cell? ⟨w.heap.size, 1, none⟩ = some (.bool wide) := by rw [hbq.cell]; rfl
        have hqt : (qTab s (bl ls)).length = 64 := by simp [qTab]
        have hce : ∀ i, i < 64 → wr.cell? ⟨w.heap.size, 2 + i, none⟩ = some (.int .u16 ((qTab s (bl ls)).getD i 0)) := fun i hi => by
          rw [hbq.cell, qCells_at _ _ _ _ (by omega)]
        have HCE := Lib.hid hce
        have HQT := Lib.hid hqt
        have hrd := hbq.rdAll (qCells_len (x := lo) (y := wide) hqt)
        have hkk : Kp (fun i => i = gb ∨ i = w.heap.size) w wr := hkw.comp hkp (fun i _ h => h)
        have hs3 : wr.cell? ⟨gs, 3, none⟩ = some c3 := hkk.cell' hsg3 (by simp; omega)
        have hs3f : wr.frozen? ⟨gs, 3, none⟩ = false := (hkk.frozen (p := ⟨gs, 3, none⟩) hsgl (by simp; omega)).trans hsgf
        have hbr : Blk wr gb 135 #[.string (str.extract (64 * s) str.size)] := hbk.kp hkp (by have := hbl; simp; omega)
        have hsr : Blk wr gs 30 #[c0, c1, c2, c3, c4, c5, c6, c7, c8, c9, c10, c11, c12] := hsk.kp hkp (by have := hsgl; simp; omega)
        generalize qTab s (bl ls) = T at *
        clear hce hqt
        go_wp2_with fail
        refine (quantCheck_c _ w.heap.size 2 T HQT.out HCE.out wide).mono ?_
        rintro e w2 ⟨rfl, rfl⟩
        by_cases hqc : qcheck wide T 0 = 0
        · have hq0 : (qcheck wide T 0 != 0) = false := by simp [hqc]
          have HE : Hid (rdQuant first (bl str) = .ok (⟨lo, wide, T⟩, (bl str).drop (64 * s))) := by rw [HG.out, if_neg (by simp [hqc])]; exact Lib.hid rfl
          clear hqc
          generalize qcheck wide T 0 = qc at *
          go_wp2
          have hqln : (qCells lo wide T).length = 66 := qCells_len HQT.out
          have hown1 : wr.ownsRow base 103 66 c3 n xs := own_kp HO.out hkk (by
            intro g hg hS
            rcases hS with rfl | rfl
            · exact own_blk_ne HO.out HB.out (by decide) hg
            · exact absurd (HO.out.lt _ hg).2 (by omega))
          have HO1 := Lib.hid hown1
          have hcs : c3.ownBlock ≠ some gs := own_blk_ne HO.out HSG.out (by decide)
          have hcw : c3.ownBlock ≠ some w.heap.size := fun h => absurd (HO.out.lt _ h).2 (by omega)
          have hszw : w.heap.size < wr.heap.size := hbq.lt
          have hszs : gs < wr.heap.size := by omega
          clear hown1
          obtain ⟨i0, hi0, hz0, hz1, hz2⟩ := quant_info
          go_region_law
            ((refine step_append_lies _ (by rfl) _ _ _ (by rfl) base 103 i0 _ 66 130 Tryd.underlying22 hi0 hz0 hz1 hz2 (by rw [Value.cells]; exact zc103_size) (by omega) c3 n xs (by rfl) ((HO1.out.alloc _).drew)
                    ⟨wr.heap.size, 0, none⟩ 1 1 (qCells lo wide T) (by rfl) hqln (World.news_of_block (cs := (qCells lo wide T).toArray) (t := 103) (fr := (0, 0)) (heap_alloc_new wr _)) (qCells_one _ _ _)
                    (by omega) (by simp [maxLen]; omega) (by omega) (by simp; omega) (wr.heap.size + 1) (by simp) ?_; intro gg cap w2 hown2 hgrow hat hlt2; have hw2c := (hgrow.cell_far ⟨gs, 3, none⟩ (by simp; omega) (Ne.symm hcs)).trans ((World.cell?_alloc_lt wr _ ⟨gs, 3, none⟩ hszs).trans hs3); have hw2f := (hgrow.frozen_far ⟨gs, 3, none⟩ (by simp; omega) (Ne.symm hcs)).trans ((World.frozen?_alloc_past (w := wr) _ gs 3 hszs).trans hs3f)))
          all_goals
            go_wp2
            go_ret
            rw [HE.out]
            have hkg : Kp (fun i => c3.ownBlock = some i) wr w2 := ((Kp.refl _ _).alloc _).drew.trans (Kp.of_grown hgrow _ (fun i h => h))
            have hgb3 : c3.ownBlock ≠ some gb := own_blk_ne HO.out HB.out (by decide)
            have hgg : gs ≠ gg := by
              rcases hat with h | h
              · exact fun e => hcs (by rw [h, e])
              · omega
            refine ⟨rfl, str.extract (64 * s) str.size, _, bl_drop _ _, (hbr.kp hkg hgb3).far (Ne.symm hne) _, (hsr.kp hkg hcs).set_ 3 _, ownsRow_setCell_other hown2 (by simp [Value.ownBlock]; omega) _, ?_⟩
            refine Kp.comp (S2 := fun i => i = gs ∨ c3.ownBlock = some i) hkk ((hkg.mono (fun i _ h => .inr h)).setCell (.inl (.inl rfl)) _) ?_
            intro i hi h
            rcases h with (h | h) | h | h
            · exact .inr (.inl h)
            · omega
            · exact .inl h
            · exact .inr (.inr h)
        · have hq0 : (qcheck wide T 0 != 0) = true := by simp [hqc]
          have HE : Hid (rdQuant first (bl str) = .error 153) := by rw [HG.out, if_pos hqc]; exact Lib.hid rfl
          clear hqc
          generalize qcheck wide T 0 = qc at *
          go_wp2
          go_ret
          rw [HE.out]
          exact ⟨rfl, hkk.mono (by
            intro i hi h
            rcases h with h | h
            · exact .inr (.inl h)
            · omega)⟩
end Go.Proofs.YtnpkpikoeijdcaaDoor
