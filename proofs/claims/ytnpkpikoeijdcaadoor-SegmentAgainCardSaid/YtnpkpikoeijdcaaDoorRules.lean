/- Rules for the walk, of whatever program: aggregates of many cells loaded, stored, made and indexed, their cells as lists that stay folded. -/
import Derived.Test.YtnpkpikoeijdcaaDoorBase
import Derived.Laws.Tables
namespace Go.Proofs.YtnpkpikoeijdcaaDoor
open Go Go.RowKit
variable {P : Program}

theorem addr_add (b off j : Nat) : (⟨b, off, none⟩ : Addr).add j = ⟨b, off + j, none⟩ := by unfold Addr.add; split <;> simp_all

/-- A type of many cells: its description is a struct's or an array's, and so many cells it has. -/
def aggOk (P : Program) (ty n : Nat) : Bool :=
  (match P.underlying ty with | some (.struct _) | some (.array _ _) => true | _ => false) && (match P.info? ty with | some i => i.size == n | none => false)
abbrev AggTy (P : Program) (ty n : Nat) : Prop := aggOk P ty n = true
theorem aggTy_out {ty n : Nat} (h : AggTy P ty n) : ∃ d i, P.underlying ty = some d ∧ (match d with | .struct _ | .array _ _ => true | _ => false) = true ∧ P.info? ty = some i ∧ i.size = n := by
  unfold AggTy aggOk at h
  rw [Bool.and_eq_true] at h
  obtain ⟨h1, h2⟩ := h
  cases hu : P.underlying ty with
  | none => simp [hu] at h1
  | some d =>
    cases hi : P.info? ty with
    | none => simp [hi] at h2
    | some i =>
      refine ⟨d, i, rfl, ?_, rfl, by simpa [hi] using h2⟩
      rw [hu] at h1
      cases d <;> simp_all

theorem run_loadVar_agg {ty n : Nat} (hT : AggTy P ty n) (w : World) (b off : Nat) (cs : List Value) (hlen : cs.length = n)
    (hc : ∀ j v, cs[j]? = some v → w.cell? ⟨b, off + j, none⟩ = some v) : (loadVar ty ⟨b, off, none⟩).run P w = .ok (.agg cs.toArray) w := by
  obtain ⟨d, i, hu, hd, hi, hs⟩ := aggTy_out hT
  have hl := run_loadCells_list (P := P) w ⟨b, off, none⟩ cs (fun j v hv => by rw [addr_add]; exact hc j v hv)
  have hagg : (isAgg ty).run P w = .ok true w := by
    unfold isAgg
    rw [Sem.run_bind, run_underlying hu w]
    cases d <;> simp_all
  rw [hlen, ← hs] at hl
  simp [loadVar, Sem.run_bind, hagg, sizeOf, typeInfo, hi, hl]

theorem wp_load_agg {o : Oper} {a : Act} {w : World} {K : Act → World → Prop} {Q : Exit → Act → World → Prop} {ty n : Nat} (hT : AggTy P ty n) (x : Operand) (ho : o.op = .load ty x)
    (b off : Nat) (hx : a.eval x = .pointer (some ⟨b, off, none⟩)) (cs : List Value) (hlen : cs.length = n) (hc : ∀ j v, cs[j]? = some v → w.cell? ⟨b, off + j, none⟩ = some v)
    (h : K (a.put o.dst (.agg cs.toArray)) w) : o.wp P a w K Q := by
  unfold Oper.wp execOp
  simp only [ho, hx, Instr.loadAt, Instr.sureAddr, Sem.run_bind, Sem.run_pure, Result.andThen_ok, run_loadVar_agg hT w b off cs hlen hc]
  exact h
theorem wpList_load_agg {ops : Array Oper} {rest : List Oper} {o : Oper} {a : Act} {w : World} {Q : Exit → Act → World → Prop} (hgd : o.guard = none) {ty n : Nat} (hT : AggTy P ty n) (x : Operand) (ho : o.op = .load ty x)
    (b off : Nat) (hx : a.eval x = .pointer (some ⟨b, off, none⟩)) (cs : List Value) (hlen : cs.length = n) (hc : ∀ j v, cs[j]? = some v → w.cell? ⟨b, off + j, none⟩ = some v)
    (h : wpList P ops Q rest (a.put o.dst (.agg cs.toArray)) w) : wpList P ops Q (o :: rest) a w :=
  wpList_plain hgd fun _ hK => wp_load_agg hT x ho b off hx cs hlen hc (hK _ _ h)

/-- The cells of a block known whole, from a place on. -/
theorem Blk.at_ {w : World} {g t : Nat} {cs : Array Value} (h : Blk w g t cs) (off : Nat) (ds : List Value) (hd : ∀ j v, ds[j]? = some v → cs[off + j]? = some v) :
    ∀ j v, ds[j]? = some v → w.cell? ⟨g, off + j, none⟩ = some v := fun j v hv => by rw [h.cell]; exact hd j v hv

theorem run_storeVar_agg {ty n : Nat} (hT : AggTy P ty n) (w : World) (g off t : Nat) (cur : Array Value) (cs : List Value) (hg : Blk w g t cur) (hlen : cs.length = n) (hfit : off + n ≤ cur.size) (h1 : ∀ v ∈ cs, v.oneCell' = true) :
    (storeVar ty ⟨g, off, none⟩ (.agg cs.toArray)).run P w = .ok () (w.setRow g (cur.toList.take off ++ cs ++ cur.toList.drop (off + n)).toArray) := by
  obtain ⟨d, i, hu, hd, hi, hs⟩ := aggTy_out hT
  have h := run_storeCells_at P g off t cs 0 cur w hg (by omega) h1
  simp [storeVar, Value.cells, sizeOf, typeInfo, hi, hs, hlen]
  rw [h]
  simp [hlen]

theorem wp_store_agg {o : Oper} {a : Act} {w : World} {K : Act → World → Prop} {Q : Exit → Act → World → Prop} {ty n : Nat} (hT : AggTy P ty n) (x y : Operand) (ho : o.op = .store ty x y)
    (g off t : Nat) (hx : a.eval x = .pointer (some ⟨g, off, none⟩)) (cs : List Value) (hy : a.eval y = .agg cs.toArray) (cur : Array Value) (hg : Blk w g t cur) (hlen : cs.length = n) (hfit : off + n ≤ cur.size) (h1 : ∀ v ∈ cs, v.oneCell' = true)
    (h : K (a.put o.dst undef) (w.setRow g (cur.toList.take off ++ cs ++ cur.toList.drop (off + n)).toArray)) : o.wp P a w K Q := by
  unfold Oper.wp execOp
  simp only [ho, hx, hy, Instr.storeAt, Instr.sureAddr, Sem.run_bind, Sem.run_pure, Result.andThen_ok, run_storeVar_agg hT w g off t cur cs hg hlen hfit h1]
  exact h
theorem wpList_store_agg {ops : Array Oper} {rest : List Oper} {o : Oper} {a : Act} {w : World} {Q : Exit → Act → World → Prop} (hgd : o.guard = none) {ty n : Nat} (hT : AggTy P ty n) (x y : Operand) (ho : o.op = .store ty x y)
    (g off t : Nat) (hx : a.eval x = .pointer (some ⟨g, off, none⟩)) (cs : List Value) (hy : a.eval y = .agg cs.toArray) (cur : Array Value) (hg : Blk w g t cur) (hlen : cs.length = n) (hfit : off + n ≤ cur.size) (h1 : ∀ v ∈ cs, v.oneCell' = true)
    (h : wpList P ops Q rest (a.put o.dst undef) (w.setRow g (cur.toList.take off ++ cs ++ cur.toList.drop (off + n)).toArray)) : wpList P ops Q (o :: rest) a w :=
  wpList_plain hgd fun _ hK => wp_store_agg hT x y ho g off t hx cs hy cur hg hlen hfit h1 (hK _ _ h)

/-- A new variable of many cells: its zero value stays folded. -/
theorem wp_alloc {o : Oper} {a : Act} {w : World} {K : Act → World → Prop} {Q : Exit → Act → World → Prop} (ty : Nat) (ho : o.op = .alloc ty) (z : Value) (hz : (P.info? ty).bind (·.zero) = some z)
    (h : K (a.put o.dst (.pointer (some ⟨w.heap.size, 0, none⟩))) (w.alloc (.cells z.cells ty))) : o.wp P a w K Q := by
  cases hi : P.info? ty with
  | none => simp [hi] at hz
  | some i =>
    have hz' : i.zero = some z := by simpa [hi] using hz
    unfold Oper.wp execOp
    simp [ho, Instr.alloc, zeroValue, typeInfo, hi, hz', newVar, newRow, newObj, Sem.run]
    exact h
theorem wpList_alloc {ops : Array Oper} {rest : List Oper} {o : Oper} {a : Act} {w : World} {Q : Exit → Act → World → Prop} (hgd : o.guard = none) (ty : Nat) (ho : o.op = .alloc ty) (z : Value) (hz : (P.info? ty).bind (·.zero) = some z)
    (h : wpList P ops Q rest (a.put o.dst (.pointer (some ⟨w.heap.size, 0, none⟩))) (w.alloc (.cells z.cells ty))) : wpList P ops Q (o :: rest) a w :=
  wpList_plain hgd fun _ hK => wp_alloc ty ho z hz (hK _ _ h)

/-- An array's element, the array as a value. -/
theorem run_index_agg {t e len : Nat} (ht : P.underlying t = some (.array len e)) (he : ∀ w, (isAgg e).run P w = .ok false w) (hs : ∀ w, (sizeOf e).run P w = .ok 1 w) (cs : Array Value) (k : IntKind) (i : Nat) (hi : i < len) (v : Value) (hv : cs[i]? = some v) (w : World) :
    (Instr.index t (.agg cs) (.int k (i : Int))).run P w = .ok v w := by
  have h0 : (0 : Int) ≤ (i : Int) ∧ (i : Int) < (len : Int) := by omega
  simp [Instr.index, asIntOf, run_underlying ht, part, he, hs, hv, hi]
theorem alloc_setRow (w : World) (cur cs : Array Value) (t : TypeId) : (w.alloc (.cells cur t)).setRow w.heap.size cs = w.alloc (.cells cs t) := by
  unfold World.setRow
  simp only [World.alloc]
  congr 1
  apply Array.ext_getElem?
  intro i
  rw [Array.getElem?_modify]
  by_cases h : w.heap.size = i
  · subst h; simp
  · rw [if_neg h, Array.getElem?_push, Array.getElem?_push]
    rw [if_neg (fun e => h e.symm), if_neg (fun e => h e.symm)]
/-- A new variable of many cells; a whole value stored into it at once. -/
theorem wpList_allocA {ops : Array Oper} {rest : List Oper} {o : Oper} {a : Act} {w : World} {Q : Exit → Act → World → Prop} (hgd : o.guard = none) (ty : Nat) (ho : o.op = .alloc ty) (cs : Array Value) (hz : (P.info? ty).bind (·.zero) = some (.agg cs))
    (h : wpList P ops Q rest (a.put o.dst (.pointer (some ⟨w.heap.size, 0, none⟩))) (w.alloc (.cells cs ty))) : wpList P ops Q (o :: rest) a w :=
  wpList_alloc hgd ty ho (.agg cs) hz h
theorem wpList_store_new {ops : Array Oper} {rest : List Oper} {o : Oper} {a : Act} {w : World} {Q : Exit → Act → World → Prop} (hgd : o.guard = none) {ty n : Nat} (hT : AggTy P ty n) (x y : Operand) (ho : o.op = .store ty x y) (t : Nat) (cur : Array Value)
    (hx : a.eval x = .pointer (some ⟨w.heap.size, 0, none⟩)) (cs : List Value) (hy : a.eval y = .agg cs.toArray) (hlen : cs.length = n) (hcur : cur.size = n) (h1 : ∀ v ∈ cs, v.oneCell' = true)
    (h : wpList P ops Q rest (a.put o.dst undef) (w.alloc (.cells cs.toArray t))) : wpList P ops Q (o :: rest) a (w.alloc (.cells cur t)) := by
  refine wpList_store_agg hgd hT x y ho w.heap.size 0 t hx cs hy cur (Blk.new _ _ _) hlen (by omega) h1 ?_
  have e : (cur.toList.take 0 ++ cs ++ cur.toList.drop (0 + n)).toArray = cs.toArray := by
    rw [List.drop_of_length_le (by simp [hcur])]; simp
  rw [e, alloc_setRow]
  exact h
theorem wpList_build_fact {ops : Array Oper} {rest : List Oper} {o : Oper} {a : Act} {w : World} {Q : Exit → Act → World → Prop} (hgd : o.guard = none) (t : TypeId) (parts : List (Nat × Operand)) (ho : o.op = .build t parts.toArray) (v : Value)
    (hrun : (Instr.build t (parts.map fun (i, x) => (i, a.eval x)).toArray).run P w = .ok v w)
    (h : wpList P ops Q rest (a.put o.dst v) w) : wpList P ops Q (o :: rest) a w :=
  wpList_plain hgd fun _ hK => by
    unfold Oper.wp execOp
    simp only [ho, List.map_toArray, Sem.run_bind, hrun, Result.andThen_ok]
    exact hK _ _ h

/-! ### a row of cells, read at once -/
def rdRow (w : World) (g off n : Nat) : Option (List Value) :=
  match w.heap[g]? with
  | some (.cells c _ _) => if off + n ≤ c.size then some ((c.toList.drop off).take n) else none
  | _ => none
theorem rdRow_cells {w : World} {g off n : Nat} {cs : List Value} (h : rdRow w g off n = some cs) : cs.length = n ∧ ∀ j v, cs[j]? = some v → w.cell? ⟨g, off + j, none⟩ = some v := by
  unfold rdRow at h
  split at h
  · rename_i c t fr hg
    split at h
    · rename_i hle
      injection h with h
      subst h
      refine ⟨by simp; omega, fun j v hv => ?_⟩
      rw [cell_of_row w g (off + j) c t fr hg]
      rw [List.getElem?_take] at hv
      split at hv
      · simpa using hv
      · cases hv
    · cases h
  · cases h
theorem Blk.rd {w : World} {g t : Nat} {c : Array Value} (h : Blk w g t c) (off n : Nat) (hle : off + n ≤ c.size) : rdRow w g off n = some ((c.toList.drop off).take n) := by
  unfold Blk at h
  unfold rdRow
  rw [h]
  simp [hle]
theorem Blk.rdAll {w : World} {g t n : Nat} {cs : List Value} (h : Blk w g t cs.toArray) (hn : cs.length = n) : rdRow w g 0 n = some cs := by
  rw [h.rd 0 n (by simp [hn])]
  simp [← hn]
theorem rdRow_drew (w : World) (g off n : Nat) : rdRow w.drew g off n = rdRow w g off n := rfl
theorem rdRow_drewN (w : World) (k g off n : Nat) : rdRow (w.drewN k) g off n = rdRow w g off n := rfl
theorem rdRow_alloc (w : World) (o : Obj) (g off n : Nat) (h : g < w.heap.size) : rdRow (w.alloc o) g off n = rdRow w g off n := by
  unfold rdRow
  rw [Below.heap_alloc w o g h]
theorem rdRow_new (w : World) (cs : Array Value) (t g off n : Nat) (h : g = w.heap.size) (hle : off + n ≤ cs.size) : rdRow (w.alloc (.cells cs t)) g off n = some ((cs.toList.drop off).take n) := by
  subst h
  exact (Blk.new w t cs).rd off n hle
theorem rdRow_al {w : World} {g off n : Nat} {cs : List Value} (h : rdRow w g off n = some cs) (hn : cs ≠ []) (o : Obj) : rdRow (w.alloc o) g off n = some cs := by
  have hc := rdRow_cells h
  cases cs with
  | nil => exact absurd rfl hn
  | cons v vs =>
    have := World.block_lt_of_cell? w _ (hc.2 0 v (by simp))
    rw [rdRow_alloc _ _ _ _ _ this]; exact h
theorem rdRow_grown {w w' : World} {row : Option Nat} {g off n : Nat} {cs : List Value} (hg : w.grownBy w' row) (hne : row ≠ some g) (h : rdRow w g off n = some cs) : rdRow w' g off n = some cs := by
  have hlt : g < w.heap.size := by
    rcases Nat.lt_or_ge g w.heap.size with h' | h'
    · exact h'
    · unfold rdRow at h
      rw [Array.getElem?_eq_none h'] at h
      cases h
  unfold rdRow at h ⊢
  rw [hg.block g hlt (Ne.symm hne)]
  exact h
theorem rdRow_setCell (w : World) (a : Addr) (v : Value) (g off n : Nat) (h : g ≠ a.block) : rdRow (w.setCell a v) g off n = rdRow w g off n := by
  unfold rdRow
  rw [Below.heap_setCell w a v g h]
theorem rdRow_kp {S : Nat → Prop} {w w' : World} (h : Kp S w w') {g off n : Nat} {cs : List Value} (hr : rdRow w g off n = some cs) (hs : ¬ S g) : rdRow w' g off n = some cs := by
  have hlt : g < w.heap.size := by
    rcases Nat.lt_or_ge g w.heap.size with h | h
    · exact h
    · unfold rdRow at hr
      rw [Array.getElem?_eq_none h] at hr
      cases hr
  unfold rdRow at hr ⊢
  rw [h.block g hlt hs]
  exact hr
/-- A whole variable loaded: an equation without a condition, so that the walk rewrites by it. -/
theorem loadAt_eq {ty n : Nat} (hT : AggTy P ty n) (g off : Nat) (w : World) : (Instr.loadAt ty (.pointer (some ⟨g, off, none⟩))).run P w =
    match rdRow w g off n with
    | some cs => .ok (.agg cs.toArray) w
    | none => (loadVar ty ⟨g, off, none⟩).run P w := by
  split
  · rename_i cs h
    obtain ⟨h1, h2⟩ := rdRow_cells h
    have := run_loadVar_agg hT w g off cs h1 h2
    simp only [Instr.loadAt, Instr.sureAddr, Sem.run_bind, Sem.run_pure, Result.andThen_ok, this]
  · simp only [Instr.loadAt, Instr.sureAddr, Sem.run_bind, Sem.run_pure, Result.andThen_ok]
theorem take_set_seg {l : List Value} {k : Nat} {x : Value} (h : k < l.length) : (l.take k ++ x :: l.drop (k + 1)).take (k + 1) = l.take k ++ [x] := by
  rw [List.take_append]
  have h1 : (l.take k).length = k := by simp; omega
  rw [h1, List.take_of_length_le (by omega)]
  have : k + 1 - k = 1 := by omega
  rw [this]
  rfl
/-- A slice of one element of many cells, made. -/
theorem run_buildSlice_one {t e n : Nat} (ht : P.underlying t = some (.slice e)) (i : TypeInfo) (hi : P.info? e = some i) (hs : i.size = n) (z : Array Value) (hz : i.zero = some (.agg z)) (hzs : z.size = n) (hn : 0 < n) (hn2 : n ≤ 16777216)
    (cs : List Value) (hlen : cs.length = n) (w : World) :
    (Instr.buildSlice t 1 #[(0, .agg cs.toArray)]).run P w = .ok (.slice (some ⟨w.heap.size, 0, none⟩) 1 1) (w.alloc (.cells cs.toArray e)) := by
  have hne : ¬ n = 0 := by omega
  have hgt : ¬ 16777216 < n := by omega
  have key : ∀ (l : List Value) (k : Nat) (init : Array Value), k + l.length = init.size →
      (l.zipIdx k).foldl (fun (cs : Array Value) (x : Value × Nat) => cs.setIfInBounds x.2 x.1) init = (init.toList.take k ++ l).toArray := by
    intro l
    induction l with
    | nil =>
      intro k init hk
      simp at hk
      simp [List.take_of_length_le, hk]
    | cons x l ih =>
      intro k init hk
      simp at hk
      rw [List.zipIdx_cons, List.foldl_cons, ih (k + 1) _ (by simp; omega)]
      congr 1
      simp only [Array.toList_setIfInBounds]
      have hkl : k < init.toList.length := by simp; omega
      have e1 : (init.toList.set k x).take (k + 1) = init.toList.take k ++ [x] := by
        rw [List.set_eq_take_append_cons_drop, if_pos hkl, take_set_seg hkl]
      rw [e1]
      simp
  have hfill : Instr.fill (fun i => some (i * n, n)) (((Array.range (1 * n)).map (z[· % z.size]!))) [(0, .agg cs.toArray)] = some cs.toArray := by
    have hk := key cs 0 ((Array.range (1 * n)).map (z[· % z.size]!)) (by simp [hlen])
    simp [Instr.fill, Value.cells, hlen]
    simpa [Array.zipIdx] using hk
  simp [Instr.buildSlice, run_underlying ht, sizeOf, typeInfo, zeroValue, hi, hs, hz, hne, hgt, Value.cells] at hfill ⊢
  rw [hfill]
  simp [newRow, newObj, Sem.run]
end Go.Proofs.YtnpkpikoeijdcaaDoor
