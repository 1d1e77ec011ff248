/- Contract: segment.readHuff. -/
import Derived.Test.YtnpkpikoeijdcaaDoorCd
import Derived.Laws.IdiomStrings
set_option linter.unusedVariables false
set_option linter.unusedSimpArgs false
namespace Go.Proofs.YtnpkpikoeijdcaaDoor
open Go Go.RowKit

/-! ### a slice of bytes in a block of bytes -/
def Bs (w : World) (A : Option Addr) (n : Nat) (l : List Int) : Prop :=
  l.length = n ∧ (0 < n → ∃ b off cs fr, A = some ⟨b, off, none⟩ ∧ w.heap[b]? = some (.cells cs 5 fr) ∧ ∀ j u, (u8s l)[j]? = some u → cs[off + j]? = some u)
theorem Bs.rd {w : World} {A : Option Addr} {n : Nat} {l : List Int} (h : Bs w A n l) : Rd w w.heap.size 1 A n (u8s l) := by
  refine ⟨by rw [u8s_length, h.1]; omega, fun hn => ?_⟩
  obtain ⟨b, off, cs, fr, hA, hb, hc⟩ := h.2 hn
  refine ⟨b, off, hA, ?_, fun j u hu => ?_⟩
  · rcases Nat.lt_or_ge b w.heap.size with h' | h'
    · exact h'
    · rw [Array.getElem?_eq_none h'] at hb; cases hb
  · rw [cell_of_row w b (off + j) cs _ fr hb]; exact hc j u hu
theorem Bs.kp {S : Nat → Prop} {w w' : World} {A : Option Addr} {n : Nat} {l : List Int} (h : Bs w A n l) (hk : Kp S w w')
    (hs : ∀ i, S i → ∀ cs fr, w.heap[i]? ≠ some (.cells cs 5 fr)) : Bs w' A n l := by
  refine ⟨h.1, fun hn => ?_⟩
  obtain ⟨b, off, cs, fr, hA, hb, hc⟩ := h.2 hn
  have hlt : b < w.heap.size := by
    rcases Nat.lt_or_ge b w.heap.size with h' | h'
    · exact h'
    · rw [Array.getElem?_eq_none h'] at hb; cases hb
  exact ⟨b, off, cs, fr, hA, (hk.block b hlt (fun hS => hs b hS cs fr hb)).trans hb, hc⟩
theorem Blk.noByte {w : World} {g t : Nat} {c : Array Value} (h : Blk w g t c) (ht : t ≠ 5) : ∀ cs fr, w.heap[g]? ≠ some (.cells cs 5 fr) := by
  intro cs fr e
  unfold Blk at h
  rw [h] at e
  injection e with e
  injection e with _ e2
  exact ht e2
theorem own_noByte {w : World} {base : Nat} {e : TypeId} {size n : Nat} {v : Value} {xs : List Value} (h : w.ownsRow base e size v n xs) (he : e ≠ 5) {g : Nat} (hg : v.ownBlock = some g) : ∀ cs fr, w.heap[g]? ≠ some (.cells cs 5 fr) := by
  rcases h.2 with ⟨rfl, _⟩ | ⟨g', cap, cur, rfl, _, hh, _⟩
  · simp [Value.ownBlock] at hg
  · have : g' = g := by simpa [Value.ownBlock] using hg
    subst this
    exact Blk.noByte (c := cur) hh he
def newBytes (w : World) (s : ByteArray) : World := w.drew.alloc (.cells (bytesRow s (grownCap w s.size 0 5)) 5 ((bytesRow s (grownCap w s.size 0 5)).size, (bytesRow s (grownCap w s.size 0 5)).size + 1))
theorem newBytes_kp (S : Nat → Prop) (w : World) (s : ByteArray) : Kp S w (newBytes w s) := (Kp.refl S w).drew.alloc _
theorem newBytes_size (w : World) (s : ByteArray) : (newBytes w s).heap.size = w.heap.size + 1 := by simp [newBytes]
theorem newBytes_bs (w : World) (s : ByteArray) : Bs (newBytes w s) (some ⟨w.heap.size, 0, none⟩) s.size (bl s) := by
  refine ⟨bl_length s, fun _ => ⟨w.heap.size, 0, _, _, rfl, heap_alloc_new w.drew _, fun j u hu => ?_⟩⟩
  have hj : j < s.data.size := by
    rcases Nat.lt_or_ge j s.data.size with h | h
    · exact h
    · rw [List.getElem?_eq_none (by rw [u8s_length, bl_length]; exact h)] at hu; cases hu
  rw [Nat.zero_add, bytesRow_at _ _ _ hj]
  rw [u8s_get _ _ (by rw [bl_length]; exact hj), ← bl_get s j hj] at hu
  exact hu
theorem bytesCap (w : World) (s : ByteArray) (h : (s.size : Int) ≤ 1000000000) : s.size ≤ grownCap w s.size 0 5 ∧ grownCap w s.size 0 5 ≤ maxLen :=
  ⟨grownCap_ge _ _ _ _, grownCap_le_maxLen _ _ _ _ (by simp [maxLen]; omega)⟩
theorem h_bytes (ρ : Operand → Value) (dst : Option Tmp) (x : Operand) (ty' : TypeId) (pos : String) (after : Array Edge) (guard : Option (Nat × Bool)) (w : World) :
    Sem.run Tryd.prog (execOp ρ ⟨dst, .convert 9 28 x, ty', pos, after, guard⟩) w = (match ρ x with
      | .string s => .ok (.value (.slice (some ⟨w.heap.size, 0, none⟩) s.size (grownCap w s.size 0 5))) (newBytes w s)
      | _ => orRun Tryd.prog ρ ⟨dst, .convert 9 28 x, ty', pos, after, guard⟩ w) := by
  split
  · rename_i s hx
    have h := run_bytes_of_string w 9 28 5 s Tryd.underlying9 Tryd.underlying28 Tryd.underlying5
    simp only [execOp, hx, Sem.run_bind, h, Result.andThen_ok, Sem.run_pure]
    rfl
  · rfl


/-! ### tables of codes -/
def hCells (cls id : Int) (cnt : List Int) (v : Value) : List Value := .int .u8 cls :: .int .u8 id :: (u8s cnt ++ [v])
def hz (x y : Int) : List Value := hCells x y (List.replicate 16 0) (.slice none 0 0)
theorem hCells_len {x y : Int} {t : List Int} {v : Value} (h : t.length = 16) : (hCells x y t v).length = 19 := by simp [hCells, u8s, h]
theorem hCells_one (x y : Int) (t : List Int) (v : Value) (hv : v.oneCell' = true) : ∀ u ∈ hCells x y t v, u.oneCell' = true := by
  intro u hu
  simp only [hCells, List.mem_cons, List.mem_append, List.not_mem_nil, or_false] at hu
  rcases hu with rfl | rfl | hu | rfl
  · rfl
  · rfl
  · exact u8s_one _ _ hu
  · exact hv
theorem huff_info0 : (Tryd.prog.info? 94).map (fun i => (i.zero, i.size, i.bytes)) = some (some (.agg (hz 0 0).toArray), 19, 48) := by kernel_rfl
theorem huff_info : ∃ i0, Tryd.prog.info? 94 = some i0 ∧ i0.zero = some (.agg (hz 0 0).toArray) ∧ i0.size = 19 ∧ i0.bytes = 48 := info_parts huff_info0
theorem hz_len (x y : Int) : (hz x y).length = 19 := by simp [hz, hCells_len]
theorem hz_lit (x y : Int) : hz x y = ([.int .u8 x, .int .u8 y, .int .u8 0, .int .u8 0, .int .u8 0, .int .u8 0, .int .u8 0, .int .u8 0, .int .u8 0, .int .u8 0, .int .u8 0, .int .u8 0, .int .u8 0, .int .u8 0, .int .u8 0, .int .u8 0, .int .u8 0, .int .u8 0, .slice none 0 0] : List Value) := rfl
theorem ty_huff : AggTy Tryd.prog 94 19 := by show aggOk _ _ _ = true; kernel_rfl
theorem h_load : type_of% (@ex_load Tryd.prog 94 19 ty_huff) := @ex_load Tryd.prog 94 19 ty_huff
theorem s_load : type_of% (@ex_load Tryd.prog 61 17 ty_spec) := @ex_load Tryd.prog 61 17 ty_spec
theorem h_store : type_of% (@ex_store Tryd.prog 94 19 ty_huff) := @ex_store Tryd.prog 94 19 ty_huff
theorem h_okSt (w : World) (x y : Int) : okSt (w.alloc (.cells #[.int .u8 0, .int .u8 0, .int .u8 0, .int .u8 0, .int .u8 0, .int .u8 0, .int .u8 0, .int .u8 0, .int .u8 0, .int .u8 0, .int .u8 0, .int .u8 0, .int .u8 0, .int .u8 0, .int .u8 0, .int .u8 0, .int .u8 0, .int .u8 0, .slice none 0 0] 94)) w.heap.size 0 19 #[.int .u8 x, .int .u8 y, .int .u8 0, .int .u8 0, .int .u8 0, .int .u8 0, .int .u8 0, .int .u8 0, .int .u8 0, .int .u8 0, .int .u8 0, .int .u8 0, .int .u8 0, .int .u8 0, .int .u8 0, .int .u8 0, .int .u8 0, .int .u8 0, .slice none 0 0] = true :=
  okSt_new _ _ _ _ _ rfl rfl (fun v hv => hCells_one x y (List.replicate 16 0) (.slice none 0 0) rfl v (by rw [← hz_lit x y] at hv; exact hv))
theorem h_fresh (w : World) (x y : Int) : wrRow (w.alloc (.cells #[.int .u8 0, .int .u8 0, .int .u8 0, .int .u8 0, .int .u8 0, .int .u8 0, .int .u8 0, .int .u8 0, .int .u8 0, .int .u8 0, .int .u8 0, .int .u8 0, .int .u8 0, .int .u8 0, .int .u8 0, .int .u8 0, .int .u8 0, .int .u8 0, .slice none 0 0] 94)) w.heap.size 0 [.int .u8 x, .int .u8 y, .int .u8 0, .int .u8 0, .int .u8 0, .int .u8 0, .int .u8 0, .int .u8 0, .int .u8 0, .int .u8 0, .int .u8 0, .int .u8 0, .int .u8 0, .int .u8 0, .int .u8 0, .int .u8 0, .int .u8 0, .int .u8 0, .slice none 0 0] = w.alloc (.cells (hz x y).toArray 94) := by
  rw [hz_lit]
  exact wrRow_new w _ _ _ _ rfl rfl
theorem h_slice (ρ : Operand → Value) (dst : Option Tmp) (x : Operand) (ty' : TypeId) (pos : String) (after : Array Edge) (guard : Option (Nat × Bool)) (w : World) :
    Sem.run Tryd.prog (execOp ρ ⟨dst, .buildSlice 23 1 #[(0, x)], ty', pos, after, guard⟩) w = (match ρ x with
      | .agg a => if a.size = 19 then .ok (.value (.slice (some ⟨w.heap.size, 0, none⟩) 1 1)) (w.alloc (.cells a 94)) else orRun Tryd.prog ρ ⟨dst, .buildSlice 23 1 #[(0, x)], ty', pos, after, guard⟩ w
      | _ => orRun Tryd.prog ρ ⟨dst, .buildSlice 23 1 #[(0, x)], ty', pos, after, guard⟩ w) := by
  obtain ⟨i0, hi0, hz0, hz1, _⟩ := huff_info
  exact ex_buildSlice Tryd.underlying23 i0 hi0 hz1 _ hz0 rfl (by omega) (by omega) ρ dst x ty' pos after guard w
/-- A table of codes in cells. -/
def HfV (w : World) (h : Hf) (cells : List Value) : Prop := h.cnt.length = 16 ∧ ∃ A n c, cells = hCells h.cls h.id h.cnt (.slice A n c) ∧ n ≤ c ∧ c ≤ maxLen ∧ Bs w A n h.vals
def HuffPost (w : World) (gs gb base n : Nat) (c : Value → Array Value) (c4 : Value) (xs : List Value) (r : Except Int (Hf × List Int)) (e : Ending) (w' : World) : Prop :=
  match r with
  | .error er => e = .returned (.int .i64 er) ∧ Kp (fun i => i = gs ∨ i = gb ∨ c4.ownBlock = some i) w w'
  | .ok (h, rest) => e = .returned (.int .i64 0) ∧ ∃ str' c4' hc, bl str' = rest ∧ Blk w' gb 135 #[.string str'] ∧ Blk w' gs 30 (c c4') ∧
      w'.ownsRow base 94 19 c4' (n + 1) (xs ++ hc) ∧ HfV w' h hc ∧ Kp (fun i => i = gs ∨ i = gb ∨ c4.ownBlock = some i) w w'

def cntTo (l : List Int) (k : Nat) : List Int := l.take k ++ List.replicate (16 - k) 0
theorem cntTo_len (l : List Int) (k : Nat) (hl : 16 ≤ l.length) (hk : k ≤ 16) : (cntTo l k).length = 16 := by simp [cntTo]; omega
theorem cntTo_zero (l : List Int) : cntTo l 0 = List.replicate 16 0 := by simp [cntTo]
theorem cntTo_full (l : List Int) : cntTo l 16 = l.take 16 := by simp [cntTo]
theorem cntTo_succ (l : List Int) (k : Nat) (hl : 16 ≤ l.length) (hk : k < 16) : (cntTo l k).set k (l.getD k 0) = cntTo l (k + 1) := by
  apply List.ext_getElem?
  intro j
  have hlen : (cntTo l k).length = 16 := cntTo_len l k hl (by omega)
  rw [List.getElem?_set]
  by_cases h : k = j
  · subst h
    rw [if_pos rfl, if_pos (by omega)]
    have : l[k]? = some (l.getD k 0) := by simp [List.getElem?_eq_getElem (show k < l.length by omega)]
    rw [cntTo, List.getElem?_append_left (by simp; omega), List.getElem?_take, if_pos (by omega), this]
  · rw [if_neg h]
    unfold cntTo
    by_cases hj : j < k
    · rw [List.getElem?_append_left (by simp; omega), List.getElem?_append_left (by simp; omega), List.getElem?_take, List.getElem?_take, if_pos hj, if_pos (by omega)]
    · rw [List.getElem?_append_right (by simp; omega), List.getElem?_append_right (by simp; omega), List.getElem?_replicate, List.getElem?_replicate]
      have e1 : (l.take k).length = k := by simp; omega
      have e2 : (l.take (k + 1)).length = k + 1 := by simp; omega
      rw [e1, e2]
      by_cases hj2 : j < 16
      · rw [if_pos (by omega), if_pos (by omega)]
      · rw [if_neg (by omega), if_neg (by omega)]
theorem hCells_set (x y : Int) (t : List Int) (v : Value) (k : Nat) (u : Int) (hk : k < t.length) : (hCells x y t v).toArray.setIfInBounds (2 + k) (.int .u8 u) = (hCells x y (t.set k u) v).toArray := by
  have e : 2 + k = k + 1 + 1 := by omega
  rw [e]
  simp [hCells, u8s, List.map_set, List.set_append_left, hk]
theorem hCells_setV (x y : Int) (t : List Int) (v v' : Value) (ht : t.length = 16) : (hCells x y t v).toArray.setIfInBounds 18 v' = (hCells x y t v').toArray := by
  have e : 18 = t.length + 1 + 1 := by omega
  rw [e]
  simp [hCells, u8s]
theorem sumI_succ (l : List Int) (k : Nat) (hk : k < l.length) : sumI (l.take (k + 1)) = sumI (l.take k) + l.getD k 0 := by
  have : l.take (k + 1) = l.take k ++ [l.getD k 0] := by
    rw [List.take_add_one]
    simp [List.getElem?_eq_getElem hk]
  rw [this, sumI, List.foldl_append]
  rfl

set_option maxHeartbeats 8000000 in
set_option maxRecDepth 100000 in
attribute [local go_sem ↓] h_load s_load h_store h_slice h_bytes in
attribute [local go_sem] h_okSt h_fresh rdRow_drew in
theorem readHuff_c (w : World) (gs gb base n : Nat) (first : Int) (h0 : 0 ≤ first) (h1 : first ≤ 31) (str : ByteArray) (hb : Blk w gb 135 #[.string str]) (hs : (str.size : Int) ≤ 1000000)
    (c0 c1 c2 c3 c4 c5 c6 c7 c8 c9 c10 c11 c12 : Value) (hsg : Blk w gs 30 #[c0, c1, c2, c3, c4, c5, c6, c7, c8, c9, c10, c11, c12])
    (xs : List Value) (hown : w.ownsRow base 94 19 c4 n xs) (hn : n ≤ 1000000) (hbase : base ≤ w.heap.size) :
    Calls Tryd.prog 73 #[.pointer (some ⟨gs, 0, none⟩), .pointer (some ⟨gb, 0, none⟩), .int .u8 first] w fun e w' =>
      HuffPost w gs gb base n (fun x => #[c0, c1, c2, c3, x, c5, c6, c7, c8, c9, c10, c11, c12]) c4 xs (rdHuff first (bl str)) e w' := by
  have hb0 := hb.cell 0
  have hbf := hb.frozen 0
  have hbl := hb.lt
  simp at hb0
  have HB := Lib.hid hb
  clear hb
  have hsg4 := hsg.cell 4
  have hsgf := hsg.frozen 4
  have hsgl := hsg.lt
  simp at hsg4
  have HSG := Lib.hid hsg
  have HO := Lib.hid hown
  clear hsg hown
  by_cases hlen : (str.size : Int) < 16
  · have hspec : rdHuff first (bl str) = .error 152 := by
      unfold rdHuff
      rw [if_pos (by rw [bl_length]; omega)]
    have HSP := Lib.hid hspec
    clear hspec
    go_enter Tryd.func73, Tryd.ntmps73
    go_wp2_with fail
    refine (take_no _ gb str _ (by rw [World.cell?_alloc_past _ _ _ hbl]; exact hb0) hlen).mono ?_
    rintro e w1 ⟨rfl, rfl⟩
    go_wp2
    go_ret
    rw [HSP.out]
    exact ⟨rfl, (Kp.refl _ _).alloc _⟩
  · have hspec : rdHuff first (bl str) = if ((bl str).length : Int) - 16 < sumI ((bl str).take 16) then .error 152
        else if hcheck ((bl str).take 16) (((bl str).drop 16).take (sumI ((bl str).take 16)).toNat) ≠ 0 then .error 153
        else .ok (⟨first / 16, first % 16, (bl str).take 16, ((bl str).drop 16).take (sumI ((bl str).take 16)).toNat⟩, ((bl str).drop 16).drop (sumI ((bl str).take 16)).toNat) := by
      conv => lhs; unfold rdHuff
      rw [if_neg (by rw [bl_length]; omega)]
    have HSP := Lib.hid hspec
    clear hspec
    go_enter Tryd.func73, Tryd.ntmps73
    go_wp2_with fail
    refine (take_yes _ gb str _ (by rw [World.cell?_alloc_past _ _ _ hbl]; exact hb0) (by rw [World.frozen?_alloc_past _ _ _ hbl]; exact hbf) (by omega) (by omega)).mono ?_
    rintro e w1 ⟨rfl, rfl⟩
    obtain ⟨w1, hw1⟩ : ∃ w1, w1 = (w.alloc (.cells (hz (first / 16) (first % 16)).toArray 94)).setCell ⟨gb, 0, none⟩ (.string (str.extract (16 : Int).toNat str.size)) := ⟨_, rfl⟩
    rw [← hw1]
    have HW := Lib.hid hw1
    clear hw1
    have e16 : (16 : Int).toNat = 16 := rfl
    obtain ⟨ls, hls⟩ : ∃ ls, ls = str.extract 0 (16 : Int).toNat := ⟨_, rfl⟩
    rw [← hls]
    rw [e16] at hls
    obtain ⟨s1, hs1⟩ : ∃ s1, s1 = str.extract 16 str.size := ⟨_, rfl⟩
    have hlsz : ls.size = 16 := by rw [hls]; simp; omega
    have hs1z : s1.size = str.size - 16 := by rw [hs1]; simp
    have hbls : bl ls = (bl str).take 16 := by rw [hls, bl_take]
    have hbs1 : bl s1 = (bl str).drop 16 := by rw [hs1, bl_drop]
    have hq : Blk w1 w.heap.size 94 (hz (first / 16) (first % 16)).toArray := by
      rw [HW.out]; exact (Blk.new _ _ _).far (by simp; omega) _
    have hkw : Kp (fun i => i = gb) w w1 := by
      rw [HW.out]; exact Kp.setCell (S := fun i => i = gb) ((Kp.refl _ _).alloc _) (.inl rfl) _
    have hbk : Blk w1 gb 135 #[.string s1] := by
      rw [HW.out, e16, hs1]; exact (HB.out.alloc _).set_ 0 _
    have hne : gs ≠ gb := HSG.out.ne_ HB.out (by decide)
    have hsk : Blk w1 gs 30 #[c0, c1, c2, c3, c4, c5, c6, c7, c8, c9, c10, c11, c12] := HSG.out.kp hkw hne
    have hG : rdHuff first (bl str) = if (s1.size : Int) < sumI (bl ls) then .error 152 else if hcheck (bl ls) ((bl s1).take (sumI (bl ls)).toNat) ≠ 0 then .error 153
        else .ok (⟨first / 16, first % 16, bl ls, (bl s1).take (sumI (bl ls)).toNat⟩, (bl s1).drop (sumI (bl ls)).toNat) := by
      have hx : ((bl str).length : Int) - 16 = (s1.size : Int) := by rw [bl_length]; omega
      rw [HSP.out, hbls, hbs1, hx]
    have HG := Lib.hid hG
    have hq' : Blk w1 w.heap.size 94 (hCells (first / 16) (first % 16) (cntTo (bl ls) 0) (.slice none 0 0)).toArray := by
      rw [cntTo_zero]; exact hq
    have HLS := Lib.hid hlsz
    have HS1 := Lib.hid hs1z
    have hll : (bl ls).length = 16 := by rw [bl_length, hlsz]
    have HLL := Lib.hid hll
    clear hlsz hq HSP hG hls hs1 hbls hbs1 hll hs1z e16
    generalize hcl : first / 16 = cl at *
    generalize hlo : first % 16 = lo at *
    clear hlo hcl
    go_wp2
    go_loopw [10, 24] (fun sm i wr => ∃ (k : Nat) (sv : Int), k ≤ 16 ∧ i = .int .i64 k ∧ sm = .int .i64 sv ∧ 0 ≤ sv ∧ sv ≤ k * 255 ∧ Hid (sv = sumI ((bl ls).take k)) ∧ Blk wr w.heap.size 94 (hCells cl lo (cntTo (bl ls) k) (.slice none 0 0)).toArray ∧ Kp (fun i => i = w.heap.size) w1 wr) (fun _ i _ => 16 - (intOf i).toNat)
    case atStart => exact ⟨0, 0, by omega, rfl, rfl, by omega, by omega, rfl, hq', Kp.refl _ _⟩
    case round =>
      obtain ⟨k, sv, hk, rfl, rfl, s0, s1b, hsum, hblk, hkp⟩ := hrel
      by_cases hlt : k < 16
      · have hcl : wr.cell? ⟨w.heap.size, 2 + k, none⟩ = some (.int .u8 ((cntTo (bl ls) k).getD k 0)) := by
          have e : 2 + k = k + 1 + 1 := by omega
          have hk2 : k < (cntTo (bl ls) k).length := by rw [cntTo_len _ _ (by rw [HLL.out]; omega) hk]; exact hlt
          rw [hblk.cell, e]
          simp [hCells, u8s, List.getElem?_append_left, hk2]
        have hfz := hblk.frozen (2 + k)
        have i2 : (0 : Int) ≤ (k : Int) := by omega
        have i4 : ((k : Int)).toNat = k := by omega
        have i3 : (k : Int) < (ls.size : Int) := by have := HLS.out; omega
        have hidx : k < ls.size := by have := HLS.out; omega
        have hv := bl_get ls k hidx
        have hr := bl_range ls k
        have HVV := Lib.hid hv
        have HR := Lib.hid hr
        have i5 : 0 ≤ (ls[k].toNat : Int) := by omega
        have i6 : (ls[k].toNat : Int) ≤ 255 := by omega
        clear hv hr
        generalize (cntTo (bl ls) k).getD k 0 = old at hcl
        go_wp2
        go_roundw
        case rel =>
          refine ⟨k + 1, sv + (bl ls).getD k 0, by omega, by go_num, by rw [← HVV.out], by have := HR.out; omega, by have := HR.out; omega, ?_, ?_, hkp.setCell (.inl rfl) _⟩
          · rw [sumI_succ _ _ (by rw [HLL.out]; exact hlt), hsum]; exact rfl
          · have hh := hblk.set_ (2 + k) (.int .u8 ((bl ls).getD k 0))
            rw [hCells_set _ _ _ _ _ _ (by rw [cntTo_len _ _ (by rw [HLL.out]; omega) hk]; exact hlt), cntTo_succ _ _ (by rw [HLL.out]; omega) hlt] at hh
            rw [HVV.out]
            exact hh
        case measure => simp [intOf]; omega
      · have hk64 : k = 16 := by omega
        have hfull : (bl ls).take 16 = bl ls := List.take_of_length_le (by rw [HLL.out]; omega)
        have hbq : Blk wr w.heap.size 94 (hCells cl lo (bl ls) (.slice none 0 0)).toArray := by
          rw [hk64, cntTo_full, hfull] at hblk; exact hblk
        have hsv : Hid (sumI (bl ls) = sv) := by
          rw [hk64, hfull] at hsum; exact hsum.symm
        have hsvb : sv ≤ 4080 := by omega
        clear hk64 hblk hsum hfull
        have hkk : Kp (fun i => i = gb ∨ i = w.heap.size) w wr := hkw.comp hkp (fun i _ h => h)
        have hbr : Blk wr gb 135 #[.string s1] := hbk.kp hkp (by have := hbl; simp; omega)
        have hsr : Blk wr gs 30 #[c0, c1, c2, c3, c4, c5, c6, c7, c8, c9, c10, c11, c12] := hsk.kp hkp (by have := hsgl; simp; omega)
        have hbr0 := hbr.cell 0
        have hbrf := hbr.frozen 0
        simp at hbr0
        go_wp2_with fail
        by_cases hsl : (s1.size : Int) < sv
        · have HE : Hid (rdHuff first (bl str) = .error 152) := by
            rw [HG.out, if_pos (by rw [hsv.out]; exact hsl)]; exact Lib.hid rfl
          refine (take_no _ gb s1 _ hbr0 hsl).mono ?_
          rintro e w2 ⟨rfl, rfl⟩
          go_wp2
          go_ret
          rw [HE.out]
          exact ⟨rfl, hkk.mono (by
            intro i hi h
            rcases h with h | h
            · exact .inr (.inl h)
            · omega)⟩
        · have HG2 : Hid (rdHuff first (bl str) = if hcheck (bl ls) ((bl s1).take sv.toNat) ≠ 0 then .error 153
              else .ok (⟨cl, lo, bl ls, (bl s1).take sv.toNat⟩, (bl s1).drop sv.toNat)) := by
            rw [HG.out, hsv.out, if_neg hsl]; exact Lib.hid rfl
          refine (take_yes _ gb s1 _ hbr0 hbrf s0 (by omega)).mono ?_
          rintro e w2 ⟨rfl, rfl⟩
          obtain ⟨w2, hw2⟩ : ∃ w2, w2 = wr.setCell ⟨gb, 0, none⟩ (.string (s1.extract sv.toNat s1.size)) := ⟨_, rfl⟩
          rw [← hw2]
          have HW2 := Lib.hid hw2
          clear hw2
          obtain ⟨vs, hvs⟩ : ∃ vs, vs = s1.extract 0 sv.toNat := ⟨_, rfl⟩
          rw [← hvs]
          have hvz : vs.size = sv.toNat := by rw [hvs]; simp; omega
          have hbv : bl vs = (bl s1).take sv.toNat := by rw [hvs, bl_take]
          rw [← hbv] at HG2
          have HVZ := Lib.hid hvz
          have hk2 : Kp (fun i => i = gb ∨ i = w.heap.size) w w2 := by
            rw [HW2.out]; exact hkk.setCell (.inl (.inl rfl)) _
          have hbq2 : Blk w2 w.heap.size 94 (hCells cl lo (bl ls) (.slice none 0 0)).toArray := by
            rw [HW2.out]; exact hbq.far (by simp; omega) _
          have hbr2 : Blk w2 gb 135 #[.string (s1.extract sv.toNat s1.size)] := by
            rw [HW2.out]; exact hbr.set_ 0 _
          have hsr2 : Blk w2 gs 30 #[c0, c1, c2, c3, c4, c5, c6, c7, c8, c9, c10, c11, c12] := by
            rw [HW2.out]; exact hsr.far hne _
          have hcap := bytesCap w2 vs (by omega)
          obtain ⟨cap, hcapd⟩ : ∃ cap, cap = grownCap w2 vs.size 0 5 := ⟨_, rfl⟩
          rw [← hcapd] at hcap
          have hnk := newBytes_kp (fun _ => False) w2 vs
          have hnb := newBytes_bs w2 vs
          have hnq := hbq2.kp hnk (by simp)
          have hns := hsr2.kp hnk (by simp)
          have hng := hbr2.kp hnk (by simp)
          have hnsz := newBytes_size w2 vs
          have hszq := hbq2.lt
          have hnc := hnq.cell 18
          have hnf := hnq.frozen 18
          have e18 : (hCells cl lo (bl ls) (.slice none 0 0)).toArray[18]? = some (.slice none 0 0) := by
            have e : 18 = (bl ls).length + 1 + 1 := by rw [HLL.out]
            rw [e]
            simp [hCells, u8s]
          rw [e18] at hnc
          clear hvs hvz e18 hbr0 hbrf hbr hsr hbq hkp hkk
          rw [hcapd] at hcap
          clear hcapd
          have HCAP := Lib.hid hcap
          clear hcap
          obtain ⟨slv, hslv⟩ : ∃ slv : Value, slv = .slice (some ⟨w2.heap.size, 0, none⟩) vs.size (grownCap w2 vs.size 0 5) := ⟨_, rfl⟩
          have hnq3 := hnq.set_ 18 slv
          rw [hCells_setV _ _ _ _ _ HLL.out] at hnq3
          have hrd : rdRow ((newBytes w2 vs).setCell ⟨w.heap.size, 18, none⟩ slv) w.heap.size 2 17 = some (specCells (bl ls) slv) := by
            rw [hnq3.rd 2 17 (by simp [hCells_len HLL.out])]
            have : (u8s (bl ls) ++ [slv]).length = 17 := by simp [u8s, HLL.out]
            simp only [hCells, List.drop_succ_cons, List.drop_zero, specCells]
            rw [List.take_of_length_le (by omega)]
          have hns3 := hns.far (p := ⟨w.heap.size, 18, none⟩) (by have := hsgl; simp; omega) slv
          have hng3 := hng.far (p := ⟨w.heap.size, 18, none⟩) (by have := hbl; simp; omega) slv
          have hk3 : Kp (fun i => i = gb ∨ i = w.heap.size) w ((newBytes w2 vs).setCell ⟨w.heap.size, 18, none⟩ slv) := by
            refine Kp.setCell (Kp.comp hk2 hnk ?_) (.inl (.inr rfl)) _
            intro i hi h
            rcases h with h | h
            · exact h
            · exact h.elim
          have hkn : Kp (fun i => i = w.heap.size) (newBytes w2 vs) ((newBytes w2 vs).setCell ⟨w.heap.size, 18, none⟩ slv) := Kp.setCell (S := fun i => i = w.heap.size) (Kp.refl _ _) (.inl rfl) _
          have hnb3 : Bs ((newBytes w2 vs).setCell ⟨w.heap.size, 18, none⟩ slv) (some ⟨w2.heap.size, 0, none⟩) vs.size (bl vs) := hnb.kp hkn (by rintro i rfl; exact hnq.noByte (by decide))
          have HNB := Lib.hid hnb3
          rw [hslv] at hnq3 hrd hns3 hng3 hk3 HNB
          clear hnb3 hnb hnk hns hng hkn
          clear hslv slv
          go_wp2_with fail
          obtain ⟨slv, hslv⟩ : ∃ slv : Value, slv = .slice (some ⟨w2.heap.size, 0, none⟩) vs.size (grownCap w2 vs.size 0 5) := ⟨_, rfl⟩
          rw [← hslv] at hnq3 hrd hns3 hng3 hk3 HNB ⊢
          obtain ⟨w3, hw3⟩ : ∃ w3, w3 = (newBytes w2 vs).setCell ⟨w.heap.size, 18, none⟩ slv := ⟨_, rfl⟩
          rw [← hw3] at hnq3 hrd hns3 hng3 hk3 HNB ⊢
          have hvl : (bl vs).length = vs.size := bl_length vs
          have hck := huffCheck_c w3 w3.heap.size (bl ls) (bl vs) (some ⟨w2.heap.size, 0, none⟩) (grownCap w2 vs.size 0 5) HLL.out (bl_mem _) (bl_mem _) (by rw [hvl]; exact HNB.out.rd) (Nat.le_refl _) (by rw [hvl]; have := HCAP.out; omega)
          rw [hvl, ← hslv] at hck
          refine hck.mono ?_
          rintro e w4 ⟨rfl, hk4⟩
          clear hck
          have hbx : Blk w4 gb 135 #[.string (s1.extract sv.toNat s1.size)] := hng3.kp hk4 (fun h => h)
          have hsx : Blk w4 gs 30 #[c0, c1, c2, c3, c4, c5, c6, c7, c8, c9, c10, c11, c12] := hns3.kp hk4 (fun h => h)
          have hqx : Blk w4 w.heap.size 94 (hCells cl lo (bl ls) slv).toArray := hnq3.kp hk4 (fun h => h)
          have hkx : Kp (fun i => i = gb ∨ i = w.heap.size) w w4 := hk3.trans (hk4.mono fun _ _ h => h.elim)
          have HBX := Lib.hid (HNB.out.kp hk4 (fun i h => h.elim))
          by_cases hqc : hcheck (bl ls) (bl vs) = 0
          · have hq0 : (hcheck (bl ls) (bl vs) != 0) = false := by simp [hqc]
            have hE : rdHuff first (bl str) = .ok (⟨cl, lo, bl ls, bl vs⟩, (bl s1).drop sv.toNat) := by
              rw [HG2.out, if_neg (by simp [hqc])]
            have HE := Lib.hid hE
            clear hqc hE
            generalize hcheck (bl ls) (bl vs) = qc at *
            have hqln : (hCells cl lo (bl ls) slv).length = 19 := hCells_len HLL.out
            have hown1 : w4.ownsRow base 94 19 c4 n xs := own_kp HO.out hkx (by
              intro g hg hS
              rcases hS with rfl | rfl
              · exact own_blk_ne HO.out HB.out (by decide) hg
              · exact absurd (HO.out.lt _ hg).2 (by omega))
            have HO1 := Lib.hid hown1
            have hcs : c4.ownBlock ≠ some gs := own_blk_ne HO.out HSG.out (by decide)
            have hcw : c4.ownBlock ≠ some w.heap.size := fun h => absurd (HO.out.lt _ h).2 (by omega)
            have hszw : w.heap.size < w4.heap.size := hqx.lt
            have hszs : gs < w4.heap.size := by omega
            have hs4 : w4.cell? ⟨gs, 4, none⟩ = some c4 := by rw [hsx.cell]; rfl
            have hs4f := hsx.frozen 4
            have hrdx := hqx.rdAll hqln
            have hone : slv.oneCell' = true := by rw [hslv]; rfl
            have HONE := Lib.hid hone
            have HSLV := Lib.hid hslv
            clear hown1 hslv hone hw3 hnc hnf hnsz hrd
            obtain ⟨i0, hi0, hz0, hz1, hz2⟩ := huff_info
            go_wp2
            go_region_law
              ((refine step_append_lies _ (by rfl) _ _ _ (by rfl) base 94 i0 _ 19 48 Tryd.underlying23 hi0 hz0 hz1 hz2 (by rfl) (by omega) c4 n xs (by rfl) ((HO1.out.alloc _).drew)
                      ⟨w4.heap.size, 0, none⟩ 1 1 (hCells cl lo (bl ls) slv) (by rfl) hqln (World.news_of_block (cs := (hCells cl lo (bl ls) slv).toArray) (t := 94) (fr := (0, 0)) (heap_alloc_new w4 _)) (hCells_one _ _ _ _ HONE.out)
                      (by omega) (by simp [maxLen]; omega) (by omega) (by simp; omega) (w4.heap.size + 1) (by simp) ?_; intro gg cap w5 hown2 hgrow hat hlt2; have hw2c := (hgrow.cell_far ⟨gs, 4, none⟩ (by simp; omega) (Ne.symm hcs)).trans ((World.cell?_alloc_lt w4 _ ⟨gs, 4, none⟩ hszs).trans hs4); have hw2f := (hgrow.frozen_far ⟨gs, 4, none⟩ (by simp; omega) (Ne.symm hcs)).trans ((World.frozen?_alloc_past (w := w4) _ gs 4 hszs).trans hs4f)))
            all_goals
              go_wp2
              go_ret
              rw [HE.out]
              have hkg : Kp (fun i => c4.ownBlock = some i) w4 w5 := ((Kp.refl _ _).alloc _).drew.trans (Kp.of_grown hgrow _ (fun i h => h))
              have hgb3 : c4.ownBlock ≠ some gb := own_blk_ne HO.out HB.out (by decide)
              have hgg : gs ≠ gg := by
                rcases hat with h | h
                · exact fun e => hcs (by rw [h, e])
                · omega
              have hkz := Kp.setCell (S := fun i => i = gs ∨ c4.ownBlock = some i) (hkg.mono (fun i _ h => .inr h)) (p := ⟨gs, 4, none⟩) (.inl (.inl rfl)) (.slice (some ⟨gg, 0, none⟩) (n + 1) cap)
              refine ⟨rfl, s1.extract sv.toNat s1.size, _, _, bl_drop _ _, (hbx.kp hkg hgb3).far (Ne.symm hne) _, (hsx.kp hkg hcs).set_ 4 _, ownsRow_setCell_other hown2 (by simp [Value.ownBlock]; omega) _, ⟨HLL.out, _, _, _, by rw [HSLV.out], HCAP.out.1, HCAP.out.2, ?_⟩, ?_⟩
              · refine HBX.out.kp hkz ?_
                rintro i (rfl | h)
                · exact hsx.noByte (by decide)
                · exact own_noByte HO1.out (by decide) h
              · refine Kp.comp (S2 := fun i => i = gs ∨ c4.ownBlock = some i) hkx hkz ?_
                intro i hi h
                rcases h with (h | h) | h | h
                · exact .inr (.inl h)
                · omega
                · exact .inl h
                · exact .inr (.inr h)
          · have hq0 : (hcheck (bl ls) (bl vs) != 0) = true := by simp [hqc]
            have hE : rdHuff first (bl str) = .error 153 := by rw [HG2.out, if_pos hqc]
            have HE := Lib.hid hE
            clear hqc hE
            generalize hcheck (bl ls) (bl vs) = qc at *
            go_wp2
            go_ret
            rw [HE.out]
            exact ⟨rfl, hkx.mono (by
              intro i hi h
              rcases h with h | h
              · exact .inr (.inl h)
              · omega)⟩
end Go.Proofs.YtnpkpikoeijdcaaDoor
