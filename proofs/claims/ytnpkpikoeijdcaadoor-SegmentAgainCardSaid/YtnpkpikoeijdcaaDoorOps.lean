/- Whole operations on aggregates as equations that the walk rewrites by: cells stay folded. -/
import Derived.Test.YtnpkpikoeijdcaaDoorRules
set_option linter.unusedVariables false
set_option linter.unusedSimpArgs false
namespace Go.Proofs.YtnpkpikoeijdcaaDoor
open Go Go.RowKit
variable {P : Program}

/-- An operation's run, not looked into. -/
def orRun (P : Program) (ρ : Operand → Value) (o : Oper) (w : World) : Result Next := (execOp ρ o).run P w

theorem ex_load {ty n : Nat} (hT : AggTy P ty n) (ρ : Operand → Value) (dst : Option Tmp) (x : Operand) (ty' : TypeId) (pos : String) (after : Array Edge) (guard : Option (Nat × Bool)) (w : World) :
    Sem.run P (execOp ρ ⟨dst, .load ty x, ty', pos, after, guard⟩) w = (match ρ x with
      | .pointer (some ⟨g, off, none⟩) => (match rdRow w g off n with
        | some cs => .ok (.value (.agg cs.toArray)) w
        | none => orRun P ρ ⟨dst, .load ty x, ty', pos, after, guard⟩ w)
      | _ => orRun P ρ ⟨dst, .load ty x, ty', pos, after, guard⟩ w) := by
  split
  · rename_i g off hx
    split
    · rename_i cs h
      obtain ⟨h1, h2⟩ := rdRow_cells h
      have := run_loadVar_agg hT w g off cs h1 h2
      simp only [execOp, hx, Instr.loadAt, Instr.sureAddr, Sem.run_bind, Sem.run_pure, Result.andThen_ok, this]
    · rfl
  · rfl

/-- n cells lie in block g from off on, and may be written. -/
def okRow (w : World) (g off n : Nat) : Bool :=
  match w.heap[g]? with
  | some (.cells c _ (0, 0)) => decide (off + n ≤ c.size)
  | _ => false
def wrRow (w : World) (g off : Nat) (cs : List Value) : World :=
  match w.heap[g]? with
  | some (.cells c _ _) => w.setRow g (c.toList.take off ++ cs ++ c.toList.drop (off + cs.length)).toArray
  | _ => w
theorem Blk.okRow {w : World} {g t : Nat} {c : Array Value} (h : Blk w g t c) (off n : Nat) (hle : off + n ≤ c.size) : okRow w g off n = true := by
  unfold Blk at h
  unfold Proofs.YtnpkpikoeijdcaaDoor.okRow
  rw [h]
  simp [hle]
theorem okRow_blk {w : World} {g off n : Nat} (h : okRow w g off n = true) : ∃ t c, Blk w g t c ∧ off + n ≤ c.size := by
  unfold okRow at h
  split at h
  · rename_i c t hg
    exact ⟨t, c, hg, by simpa using h⟩
  · cases h
theorem Blk.wrRow {w : World} {g t : Nat} {c : Array Value} (h : Blk w g t c) (off : Nat) (cs : List Value) : Blk (wrRow w g off cs) g t (c.toList.take off ++ cs ++ c.toList.drop (off + cs.length)).toArray := by
  have h' := h
  unfold Blk at h'
  unfold Proofs.YtnpkpikoeijdcaaDoor.wrRow
  rw [h']
  exact h.row _
theorem Blk.wrRowAll {w : World} {g t : Nat} {c : Array Value} (h : Blk w g t c) (cs : List Value) (hn : cs.length = c.size) : Blk (Proofs.YtnpkpikoeijdcaaDoor.wrRow w g 0 cs) g t cs.toArray := by
  have := h.wrRow 0 cs
  rw [List.drop_of_length_le (by simp [hn])] at this
  simpa using this
theorem Blk.wrRowFar {w : World} {g t : Nat} {c : Array Value} (h : Blk w g t c) {k : Nat} (hk : g ≠ k) (off : Nat) (cs : List Value) : Blk (Proofs.YtnpkpikoeijdcaaDoor.wrRow w k off cs) g t c := by
  unfold Proofs.YtnpkpikoeijdcaaDoor.wrRow
  split
  · exact h.rowFar hk _
  · exact h
theorem Kp.wrRow {S : Nat → Prop} {a w : World} (h : Kp S a w) {g : Nat} (hp : S g ∨ a.heap.size ≤ g) (off : Nat) (cs : List Value) : Kp S a (Proofs.YtnpkpikoeijdcaaDoor.wrRow w g off cs) := by
  unfold Proofs.YtnpkpikoeijdcaaDoor.wrRow
  split
  · exact h.setRow hp _
  · exact h
theorem size_wrRow (w : World) (g off : Nat) (cs : List Value) : (wrRow w g off cs).heap.size = w.heap.size := by
  unfold wrRow; split <;> simp
theorem wrRow_drew (w : World) (g off : Nat) (cs : List Value) : wrRow w.drew g off cs = (wrRow w g off cs).drew := by
  unfold wrRow
  show (match w.heap[g]? with | some (.cells c _ _) => _ | _ => _) = _
  split <;> rfl
theorem wrRow_new (w : World) (cur : Array Value) (t g : Nat) (cs : List Value) (hg : g = w.heap.size) (hn : cs.length = cur.size) : wrRow (w.alloc (.cells cur t)) g 0 cs = w.alloc (.cells cs.toArray t) := by
  subst hg
  unfold wrRow
  rw [heap_alloc_new]
  show (w.alloc (.cells cur t)).setRow w.heap.size _ = _
  rw [alloc_setRow, List.drop_of_length_le (by simp [hn])]
  simp
theorem okRow_new (w : World) (cur : Array Value) (t g off n : Nat) (hg : g = w.heap.size) (hn : off + n ≤ cur.size) : okRow (w.alloc (.cells cur t)) g off n = true := by
  subst hg
  exact (Blk.new w t cur).okRow off n hn

/-- A store of n cells that goes through. -/
def okSt (w : World) (g off n : Nat) (a : Array Value) : Bool := okRow w g off n && (decide (a.size = n) && a.all (·.oneCell'))
theorem okSt_new (w : World) (cur : Array Value) (t n : Nat) (a : Array Value) (hc : cur.size = n) (ha : a.size = n) (hall : ∀ v ∈ a.toList, v.oneCell' = true) : okSt (w.alloc (.cells cur t)) w.heap.size 0 n a = true := by
  unfold okSt
  rw [okRow_new w cur t _ 0 n rfl (by omega)]
  rw [Bool.and_eq_true, Bool.and_eq_true, decide_eq_true_eq]
  exact ⟨rfl, ha, Array.all_eq_true_iff_forall_mem.2 (fun v hv => hall v (by simpa using hv))⟩
theorem ex_store {ty n : Nat} (hT : AggTy P ty n) (ρ : Operand → Value) (dst : Option Tmp) (x y : Operand) (ty' : TypeId) (pos : String) (after : Array Edge) (guard : Option (Nat × Bool)) (w : World) :
    Sem.run P (execOp ρ ⟨dst, .store ty x y, ty', pos, after, guard⟩) w = (match ρ x with
      | .pointer (some ⟨g, off, none⟩) => (match ρ y with
        | .agg a => if okSt w g off n a = true then .ok .skip (wrRow w g off a.toList) else orRun P ρ ⟨dst, .store ty x y, ty', pos, after, guard⟩ w
        | _ => orRun P ρ ⟨dst, .store ty x y, ty', pos, after, guard⟩ w)
      | _ => orRun P ρ ⟨dst, .store ty x y, ty', pos, after, guard⟩ w) := by
  split
  · rename_i g off hx
    split
    · rename_i a hy
      split
      · rename_i h
        unfold okSt at h
        rw [Bool.and_eq_true, Bool.and_eq_true, decide_eq_true_eq] at h
        obtain ⟨h1, h2, h3⟩ := h
        obtain ⟨t, c, hb, hle⟩ := okRow_blk h1
        have h4 : ∀ v ∈ a.toList, v.oneCell' = true := fun v hv => (Array.all_eq_true_iff_forall_mem.1 h3) v (by simpa using hv)
        have hs := run_storeVar_agg hT w g off t c a.toList hb (by simpa using h2) (by omega) h4
        have e : wrRow w g off a.toList = w.setRow g (c.toList.take off ++ a.toList ++ c.toList.drop (off + n)).toArray := by
          unfold wrRow
          unfold Blk at hb
          rw [hb]
          simp [h2]
        rw [e]
        simp only [Array.toArray_toList] at hs
        simp only [execOp, hx, hy, Instr.storeAt, Instr.sureAddr, Sem.run_bind, Sem.run_pure, Result.andThen_ok, hs]
      · rfl
    · rfl
  · rfl

theorem ex_alloc (ty : Nat) (z : Array Value) (hz : (P.info? ty).bind (·.zero) = some (.agg z)) (ρ : Operand → Value) (dst : Option Tmp) (ty' : TypeId) (pos : String) (after : Array Edge) (guard : Option (Nat × Bool)) (w : World) :
    Sem.run P (execOp ρ ⟨dst, .alloc ty, ty', pos, after, guard⟩) w = .ok (.value (.pointer (some ⟨w.heap.size, 0, none⟩))) (w.alloc (.cells z ty)) := by
  cases hi : P.info? ty with
  | none => simp [hi] at hz
  | some i =>
    have hz' : i.zero = some (.agg z) := by simpa [hi] using hz
    simp [execOp, Instr.alloc, zeroValue, typeInfo, hi, hz', newVar, newRow, newObj, Sem.run, Value.cells]

theorem ex_buildSlice {t e n : Nat} (ht : P.underlying t = some (.slice e)) (i : TypeInfo) (hi : P.info? e = some i) (hs : i.size = n) (z : Array Value) (hz : i.zero = some (.agg z)) (hzs : z.size = n) (hn : 0 < n) (hn2 : n ≤ 16777216)
    (ρ : Operand → Value) (dst : Option Tmp) (x : Operand) (ty' : TypeId) (pos : String) (after : Array Edge) (guard : Option (Nat × Bool)) (w : World) :
    Sem.run P (execOp ρ ⟨dst, .buildSlice t 1 #[(0, x)], ty', pos, after, guard⟩) w = (match ρ x with
      | .agg a => if a.size = n then .ok (.value (.slice (some ⟨w.heap.size, 0, none⟩) 1 1)) (w.alloc (.cells a e)) else orRun P ρ ⟨dst, .buildSlice t 1 #[(0, x)], ty', pos, after, guard⟩ w
      | _ => orRun P ρ ⟨dst, .buildSlice t 1 #[(0, x)], ty', pos, after, guard⟩ w) := by
  split
  · rename_i a hx
    split
    · rename_i h
      have hr := run_buildSlice_one ht i hi hs z hz hzs hn hn2 a.toList (by simpa using h) w
      simp only [Array.toArray_toList] at hr
      have hm : (#[(0, x)] : Array (Nat × Operand)).map (fun y => (y.1, ρ y.2)) = #[(0, .agg a)] := by simp [hx]
      simp only [execOp]
      rw [hm]
      simp only [Sem.run_bind, hr, Result.andThen_ok, Sem.run_pure]
    · rfl
  · rfl

/-! ### append as one operation with folded results -/
def apR (P : Program) (t : TypeId) (v x : Value) (w : World) : Result Value := (Builtin.append_ #[t, t] t #[v, x]).run P w
def apOk (P : Program) (t : TypeId) (v x : Value) (w : World) : Bool := match apR P t v x w with
  | .ok _ _ => true
  | _ => false
def apV (P : Program) (t : TypeId) (v x : Value) (w : World) : Value := match apR P t v x w with
  | .ok u _ => u
  | _ => .tuple #[]
def apW (P : Program) (t : TypeId) (v x : Value) (w : World) : World := match apR P t v x w with
  | .ok _ w' => w'
  | _ => w
theorem apR_of_ok {t : TypeId} {v x : Value} {w : World} (h : apOk P t v x w = true) : apR P t v x w = .ok (apV P t v x w) (apW P t v x w) := by
  unfold apOk at h
  unfold apV apW
  cases hr : apR P t v x w with
  | ok u w' => rfl
  | _ => rw [hr] at h; cases h
theorem ap_of_eq {t : TypeId} {v x u : Value} {w w' : World} (h : apR P t v x w = .ok u w') : apOk P t v x w = true ∧ apV P t v x w = u ∧ apW P t v x w = w' := by
  unfold apOk apV apW
  rw [h]
  exact ⟨rfl, rfl, rfl⟩
theorem ex_append (t : TypeId) (ρ : Operand → Value) (dst : Option Tmp) (s x : Operand) (pos : String) (after : Array Edge) (guard : Option (Nat × Bool)) (w : World) :
    Sem.run P (execOp ρ ⟨dst, .call { callee := .builtin .append, args := #[s, x], argTypes := #[t, t] }, t, pos, after, guard⟩) w =
      if apOk P t (ρ s) (ρ x) w = true then .ok (.value (apV P t (ρ s) (ρ x) w)) (apW P t (ρ s) (ρ x) w)
      else orRun P ρ ⟨dst, .call { callee := .builtin .append, args := #[s, x], argTypes := #[t, t] }, t, pos, after, guard⟩ w := by
  split
  · rename_i h
    have hr := apR_of_ok h
    unfold apR at hr
    unfold execOp
    simp only [resolve, invoke, builtin, Sem.run_bind, Sem.run_pure, Result.andThen_ok, List.map_toArray, List.map_cons, List.map_nil, hr]
  · rfl
theorem ap_lies (w : World) (t : TypeId) (base : Nat) (e : TypeId) (i : TypeInfo) (z : Value) (size bytes : Nat) (ht : P.underlying t = some (.slice e)) (hi : P.info? e = some i) (hz : i.zero = some z)
    (hsize : i.size = size) (hby : i.bytes = bytes) (hzs : z.cells.size = size) (hsz : 0 < size) (v : Value) (n : Nat) (xs : List Value) (hown : w.ownsRow base e size v n xs)
    (ad : Addr) (m c : Nat) (news : List Value) (hl : news.length = m * size) (hnews : ∀ j u, news[j]? = some u → w.cell? (ad.add j) = some u) (h1 : ∀ u ∈ news, u.oneCell' = true)
    (hm : 0 < m) (h63 : n + m ≤ maxLen) (hbytes : (n + m) * bytes ≤ 140737488355328) (hbase : base ≤ w.heap.size) :
    apOk P t v (.slice (some ad) m c) w = true ∧ ∃ g cap, apV P t v (.slice (some ad) m c) w = .slice (some ⟨g, 0, none⟩) (n + m) cap ∧
      (apW P t v (.slice (some ad) m c) w).ownsRow base e size (.slice (some ⟨g, 0, none⟩) (n + m) cap) (n + m) (xs ++ news) ∧
      w.grownBy (apW P t v (.slice (some ad) m c) w) v.ownBlock ∧ (v.ownBlock = some g ∨ g = w.heap.size) ∧ g < (apW P t v (.slice (some ad) m c) w).heap.size := by
  obtain ⟨g, cap, w', hr, h2, h3, h4, h5⟩ := run_append_lies (P := P) w t t base e i z size bytes ht hi hz hsize hby hzs hsz v n xs hown ad m c news hl hnews h1 hm h63 hbytes hbase w.heap.size rfl
  obtain ⟨a1, a2, a3⟩ := ap_of_eq (P := P) (t := t) hr
  rw [a2, a3]
  exact ⟨a1, g, cap, rfl, h2, h3, h4, h5⟩
/-- The same behind the one-element slice that 'append(s, x)' lays first. -/
theorem ap_one (w : World) (t : TypeId) (base : Nat) (e : TypeId) (i : TypeInfo) (z : Value) (size bytes : Nat) (ht : P.underlying t = some (.slice e)) (hi : P.info? e = some i) (hz : i.zero = some z)
    (hsize : i.size = size) (hby : i.bytes = bytes) (hzs : z.cells.size = size) (hsz : 0 < size) (v : Value) (n : Nat) (xs : List Value) (hown : w.ownsRow base e size v n xs)
    (cs : Array Value) (hl : cs.size = size) (h1 : ∀ u ∈ cs.toList, u.oneCell' = true)
    (h63 : n + 1 ≤ maxLen) (hbytes : (n + 1) * bytes ≤ 140737488355328) (hbase : base ≤ w.heap.size) :
    apOk P t v (.slice (some ⟨w.heap.size, 0, none⟩) 1 1) (w.alloc (.cells cs e)).drew = true ∧ ∃ g cap w', apV P t v (.slice (some ⟨w.heap.size, 0, none⟩) 1 1) (w.alloc (.cells cs e)).drew = .slice (some ⟨g, 0, none⟩) (n + 1) cap ∧
      apW P t v (.slice (some ⟨w.heap.size, 0, none⟩) 1 1) (w.alloc (.cells cs e)).drew = w' ∧
      w'.ownsRow base e size (.slice (some ⟨g, 0, none⟩) (n + 1) cap) (n + 1) (xs ++ cs.toList) ∧
      Kp (fun k => v.ownBlock = some k) w w' ∧ (v.ownBlock = some g ∨ w.heap.size < g) ∧ g < w'.heap.size := by
  have hown' : (w.alloc (.cells cs e)).drew.ownsRow base e size v n xs := (hown.alloc _).drew
  obtain ⟨a1, g, cap, a2, h2, h3, h4, h5⟩ := ap_lies (P := P) (w.alloc (.cells cs e)).drew t base e i z size bytes ht hi hz hsize hby hzs hsz v n xs hown' ⟨w.heap.size, 0, none⟩ 1 1 cs.toList (by simp [hl])
    (World.news_of_block (cs := cs) (t := e) (fr := (0, 0)) (heap_alloc_new w _)) h1 (by omega) h63 hbytes (by simp; omega)
  refine ⟨a1, g, cap, _, a2, rfl, h2, ((Kp.refl _ _).alloc _).drew.trans (Kp.of_grown h3 _ (fun i h => h)), ?_, h5⟩
  rcases h4 with h | h
  · exact .inl h
  · right
    have : (w.alloc (.cells cs e)).drew.heap.size = w.heap.size + 1 := by simp
    omega
end Go.Proofs.YtnpkpikoeijdcaaDoor
