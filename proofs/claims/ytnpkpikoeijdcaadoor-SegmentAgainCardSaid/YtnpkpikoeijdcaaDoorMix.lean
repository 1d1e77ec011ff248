/- A law on regions that draw their order, of whatever program: operations that only read, under facts that the others keep, are taken in the text's order; what acts comes up in one order alone: so one walk serves every order. -/
import Derived.Deep.Quiet
import Derived.StillTail
import Derived.Deep.QuietTactic
import Derived.BigQuiet
set_option linter.unusedVariables false
set_option linter.unusedSimpArgs false
namespace Go.Proofs.YtnpkpikoeijdcaaDoor
open Go

/-- A world in which S holds. -/
structure SW (S : World → Prop) where
  w : World
  h : S w
def Cs (S : World → Prop) : World → Prop := fun w' => ∃ x : SW S, w' = x.w
theorem Cs.of {S : World → Prop} {w : World} (h : S w) : Cs S w := ⟨⟨w, h⟩, rfl⟩
theorem Cs.out {S : World → Prop} {w : World} (h : Cs S w) : S w := by obtain ⟨x, rfl⟩ := h; exact x.h

section
variable {P : Program}

/-- An operation that is no call of a function. -/
def loneOp (o : Oper) : Bool := match o.op with
  | .call c => (match c.callee with | .builtin .len | .builtin .cap | .builtin .min | .builtin .max => true | _ => false)
  | .move _ | .assign _ | .pick .. | .alloc _ | .box .. | .build .. | .buildSlice .. | .load .. | .store .. | .nilCheck _ | .binOp .. | .unOp .. | .convert .. | .makeInterface .. | .makeFunc .. | .makeSlice .. | .slice ..
  | .fieldAddr .. | .field .. | .indexAddr .. | .index .. | .typeAssert .. | .extract .. => true
  | _ => false

def NoEnter (P : Program) (s : Sem Next) : Prop := ∀ w f args w', s.run P w ≠ .ok (.enter f args) w'
theorem noEnter_value (s : Sem Value) : NoEnter P (do pure (.value (← s))) := by
  intro w f args w'
  simp only [Sem.run_bind]
  cases s.run P w <;> simp [Result.andThen]
theorem noEnter_skip (s : Sem Unit) : NoEnter P (do s; pure .skip) := by
  intro w f args w'
  simp only [Sem.run_bind]
  cases s.run P w <;> simp [Result.andThen]
theorem noEnter_pure (v : Value) : NoEnter P (pure (.value v)) := by
  intro w f args w'
  simp
theorem lone_enter (o : Oper) (h : loneOp o = true) (ρ : Operand → Value) : NoEnter P (execOp ρ o) := by
  obtain ⟨dst, op, type, pos, after, guard⟩ := o
  cases op
  case call c =>
    obtain ⟨callee, args, argTypes⟩ := c
    unfold loneOp at h
    simp only at h
    cases callee with
    | builtin b =>
      cases b <;> simp only [Bool.false_eq_true] at h <;> (unfold execOp; simp only [resolve, invoke, builtin, Sem.run_bind, pure_bind]; exact noEnter_value _)
    | value x => simp at h
    | invoke r m => simp at h
  case pick c a b =>
    unfold execOp
    intro w f args w'
    simp only [Sem.run_bind]
    cases (asBool (ρ c)).run P w <;> simp [Result.andThen]
  case nilCheck x =>
    unfold execOp
    intro w f args w'
    simp only
    split
    · simp [runtimePanic]
    · simp [runtimePanic]
    · simp [runtimePanic]
    · split
      · simp [runtimePanic]
      · simp only [Sem.run_bind]
        cases Sem.run P program w with
        | halt x w1 => simp [Result.andThen]
        | ok a w1 =>
          simp only [Result.andThen_ok]
          generalize Sem.run P (nilAhead _ _ _ _) w1 = r
          cases r with
          | halt x w2 => simp [Result.andThen]
          | ok b w2 =>
            simp only [Result.andThen_ok]
            split <;> simp [unsupported]
      · simp
    · simp
  all_goals first | exact noEnter_value _ | exact noEnter_skip _ | exact noEnter_pure _ | (exfalso; simp [loneOp] at h; done)
end

section
variable {P : Program} {ops : Array Oper} {Q : Exit → Act → World → Prop} {md : Region.Mode} {S : World → Prop}

/-- In every world in which S holds the operation leaves v and that very world. -/
def RdOnly (P : Program) (ops : Array Oper) (S : World → Prop) (o : Oper) (v : Value) (a : Act) : Prop :=
  loneOp o = true ∧ YieldsIn P ops (Cs S) o v a

theorem RdOnly.wpOp {i : Nat} {o : Oper} {v : Value} {a : Act} (hi : ops[i]? = some o) (hy : RdOnly P ops S o v a) {K : Act → World → Prop} {w : World} (hS : S w) (h : K (a.put o.dst v) w) : wpOp P ops Q i K a w := by
  unfold Go.wpOp
  simp only [hi]
  obtain ⟨hl, ⟨hw, hv⟩ | ⟨hw, rfl⟩⟩ := hy
  · simp only [hw, if_true]
    left
    have h3 := hv w (Cs.of hS)
    have h4 := lone_enter (P := P) o hl a.eval w
    unfold Oper.quietAt at h3
    unfold Oper.wp
    generalize (execOp a.eval o).run P w = r at *
    cases r with
    | ok n w' =>
      cases n <;> simp only [Oper.quietUpon] at h3 <;> simp only [Oper.upon]
      case value u => obtain ⟨e1, e2⟩ := h3; rw [e1, e2]; exact h
      case skip => obtain ⟨e1, e2⟩ := h3; rw [e1, ← e2]; exact h
      case enter f args => exact absurd rfl (h4 f args w')
    | halt x w' => simp only [Oper.quietUpon] at h3
  · simp only [hw, Bool.false_eq_true, if_false]; exact h

theorem RdOnly.of_same {o : Oper} {v : Value} {a a' : Act} (hy : RdOnly P ops S o v a) (he : execOp a'.eval o = execOp a.eval o)
    (hw : Region.wanted o (yielded ops a'.tmps) = Region.wanted o (yielded ops a.tmps)) : RdOnly P ops S o v a' := ⟨hy.1, hy.2.of_same he hw⟩

theorem wpOp_putRd {j : Nat} {oi oj : Oper} {v : Value} (hj : ops[j]? = some oj) (hap : oi.apart ops oj = true)
    (hsi : ∀ cs b, oi.op ≠ .select cs b) (hsj : ∀ cs b, oj.op ≠ .select cs b)
    (hQ : ∀ c a w, Q (.panic c) (a.put oi.dst v) w → Q (.panic c) a w) {K : Act → World → Prop} {a : Act} {w : World}
    (hy : RdOnly P ops S oi v a) (h : wpOp P ops Q j K (a.put oi.dst v) w) :
    wpOp P ops Q j (fun a' w' => RdOnly P ops S oi v a' ∧ K (a'.put oi.dst v) w') a w := by
  obtain ⟨h1, h2, h3⟩ := Oper.apart_spec hap
  have keep : ∀ (a : Act), RdOnly P ops S oi v a → ∀ u, RdOnly P ops S oi v (a.put oj.dst u) := fun a hy u =>
    hy.of_same (execOp_put oi hsi a oj.dst u h3) (wanted_put oi a oj.dst u h3)
  have keepD : ∀ d, RdOnly P ops S oi v { a with defers := d :: a.defers } := fun d => hy.of_same rfl rfl
  unfold Go.wpOp at *
  simp only [hj] at *
  rw [wanted_put oj a oi.dst v h1] at h
  split
  · rename_i hw
    simp only [hw, if_true] at h
    rcases h with h | ⟨hasks, hlets⟩
    case inr => exact .inr ⟨by unfold Oper.asks at *; rw [execOp_put oj hsj a oi.dst v h1] at hasks; exact hasks, hlets⟩
    refine .inl ?_
    unfold Oper.wp at *
    rw [execOp_put oj hsj a oi.dst v h1] at h
    generalize (execOp a.eval oj).run P w = r at *
    cases r with
    | ok n w' =>
      cases n <;> simp only [Oper.upon] at h ⊢
      case value u => exact ⟨keep a hy u, by rw [← Act.put_comm a v u h2]; exact h⟩
      case skip => exact ⟨keep a hy _, by rw [← Act.put_comm a v undef h2]; exact h⟩
      case defer d =>
        refine ⟨keep _ (keepD d) _, ?_⟩
        rw [← Act.put_comm _ v undef h2, ← Act.put_defers]
        exact h
      case enter f args =>
        refine Calls.mono h fun e w'' he => ?_
        cases e with
        | returned u => exact ⟨keep a hy u, by rw [← Act.put_comm a v u h2]; exact he⟩
        | panicked c => exact hQ _ _ _ he
        | outgrown => exact he
      case row row args => exact Rows.mono h fun u w'' he => ⟨keep a hy u, by rw [← Act.put_comm a v u h2]; exact he⟩
    | halt x w' =>
      cases x <;> simp only [Oper.upon] at h ⊢
      case panic u => exact hQ _ _ _ h
  · rename_i hw
    simp only [hw] at h
    exact ⟨keep a hy _, by rw [← Act.put_comm a v undef h2]; exact h⟩

/-- What has come up is closed under waiting. -/
structure Shut (md : Region.Mode) (ops : Array Oper) (listed : Array Bool) : Prop where
  size : listed.size = ops.size
  closed : ∀ j oj, ops[j]? = some oj → listed.getD j false = true → ∀ e ∈ oj.after, Region.binds md e = true → listed.getD e.on false = true
theorem Shut.start : Shut md ops (Array.replicate ops.size false) :=
  ⟨by simp, fun j oj _ hl => (by rw [getD_replicate_false] at hl; cases hl)⟩
theorem Shut.set {i : Nat} {listed : Array Bool} (inv : Shut md ops listed) (hi : i ∈ Region.ready md ops listed) : Shut md ops (listed.setIfInBounds i true) := by
  obtain ⟨_, oi, hoi, hall⟩ := mem_ready.1 hi
  refine ⟨by simp [inv.size], fun j oj hj hl e he hb => ?_⟩
  by_cases hij : i = j
  · subst hij
    have : oj = oi := Option.some.inj (hj.symm.trans hoi)
    subst this
    exact getD_set_true (hall e he hb)
  · rw [getD_set_ne false hij] at hl
    exact getD_set_true (inv.closed j oj hj hl e he hb)
/-- The last one waits, through others, for all. -/
theorem sink_all {n : Nat} {listed : Array Bool} (hs : Region.sinkB md ops n = true) (hn : n < ops.size) (inv : Shut md ops listed) (hr : n ∈ Region.ready md ops listed) :
    ∀ (d i : Nat), n - i = d → i < n → listed.getD i false = true := by
  intro d
  induction d using Nat.strongRecOn with
  | _ d ih =>
    intro i hd hi
    obtain ⟨_, on, hon, hall⟩ := mem_ready.1 hr
    have h1 := List.all_eq_true.1 hs i (List.mem_range.2 hi)
    obtain ⟨j, hj, hj2⟩ := List.any_eq_true.1 h1
    simp only [Bool.and_eq_true, decide_eq_true_eq] at hj2
    obtain ⟨oj, hoj, e, he, hb, hon'⟩ := Region.waitsFor_spec hj2.2
    have hjle : j ≤ n := by have := List.mem_range.1 hj; omega
    by_cases hjt : j = n
    · subst hjt
      have : oj = on := Option.some.inj (hoj.symm.trans hon)
      subst this
      have h2 := hall e he hb
      rwa [hon'] at h2
    · have h2 := inv.closed j oj hoj (ih (n - j) (by omega) j rfl (by omega)) e he hb
      rwa [hon'] at h2

def exOK (md : Region.Mode) (ops : Array Oper) (ex : Nat) : Bool := ex == ops.size || (ex + 1 == ops.size && Region.sinkB md ops ex)
theorem exOK_all {ex : Nat} {listed : Array Bool} (h : exOK md ops ex = true) (inv : Shut md ops listed) (hr : ex ∈ Region.ready md ops listed) : ∀ i, i < ops.size → i ≠ ex → listed.getD i false = true := by
  intro i hi hne
  unfold exOK at h
  simp only [Bool.or_eq_true, beq_iff_eq, Bool.and_eq_true] at h
  obtain ⟨_, o, ho, _⟩ := mem_ready.1 hr
  have hlt : ex < ops.size := (Array.getElem?_eq_some_iff.1 ho).1
  rcases h with h | ⟨h, hs⟩
  · omega
  · exact sink_all hs hlt inv hr _ i rfl (by omega)

/-- Whatever order is picked; S holds behind every operation but number ex. -/
def wpAnyT (P : Program) (md : Region.Mode) (ops : Array Oper) (Q : Exit → Act → World → Prop) (S : World → Prop) (ex : Nat) : Nat → Array Bool → Act → World → Prop
  | 0, listed, a, w => Region.ready md ops listed = [] ∧ Q .normal a w
  | fuel + 1, listed, a, w =>
    (Region.ready md ops listed = [] → Q .normal a w) ∧
    ∀ i ∈ Region.ready md ops listed, wpOp P ops Q i (fun a' w' => (i ≠ ex → S w') ∧ wpAnyT P md ops Q S ex fuel (listed.setIfInBounds i true) a' w') a w

theorem wpAny_of_T {ex : Nat} : ∀ (fuel : Nat) (listed : Array Bool) (a : Act) (w : World), wpAnyT P md ops Q S ex fuel listed a w → wpAny P md ops Q fuel listed a w
  | 0, _, _, _, h => h
  | fuel + 1, _, _, _, h => ⟨h.1, fun i hi => wpOp_mono (fun a' w' h' => wpAny_of_T fuel _ a' w' h'.2) (h.2 i hi)⟩

theorem wpAnyT_first {ex i : Nat} {oi : Oper} {v : Value} (hi : ops[i]? = some oi) (hsel : ∀ (j : Nat) (o : Oper) cs b, ops[j]? = some o → o.op ≠ .select cs b)
    (hex : exOK md ops ex = true) (hQ : ∀ c a w, Q (.panic c) (a.put oi.dst v) w → Q (.panic c) a w) :
    ∀ (fuel : Nat) (listed : Array Bool) (a : Act) (w : World), Shut md ops listed →
      (∀ j oj, ops[j]? = some oj → j ≠ i → listed.getD j true = false → (∀ e ∈ oj.after, Region.binds md e = true → e.on ≠ i) → oi.apart ops oj = true) →
      i ∈ Region.ready md ops listed → RdOnly P ops S oi v a → S w →
      wpAnyT P md ops Q S ex fuel (listed.setIfInBounds i true) (a.put oi.dst v) w → wpAnyT P md ops Q S ex (fuel + 1) listed a w := by
  intro fuel
  induction fuel with
  | zero =>
    intro listed a w inv _ hr hy hS H
    refine ⟨fun h => (by rw [h] at hr; cases hr), fun j hj => ?_⟩
    by_cases hji : j = i
    · subst hji; exact hy.wpOp hi hS ⟨fun _ => hS, H⟩
    · have := ready_mono hj hji
      rw [H.1] at this
      cases this
  | succ fuel ih =>
    intro listed a w inv hfree hr hy hS H
    refine ⟨fun h => (by rw [h] at hr; cases hr), fun j hj => ?_⟩
    by_cases hji : j = i
    · subst hji; exact hy.wpOp hi hS ⟨fun _ => hS, H⟩
    · have h1 := H.2 j (ready_mono hj hji)
      obtain ⟨hjun, oj, hoj, hall⟩ := mem_ready.1 hj
      have hiun := (mem_ready.1 hr).1
      have hilt : i < ops.size := (Array.getElem?_eq_some_iff.1 hi).1
      have hjex : j ≠ ex := by
        rintro rfl
        have h2 := exOK_all hex inv hj i hilt (Ne.symm hji)
        rw [getD_both hiun] at h2
        cases h2
      have hnot : ∀ e ∈ oj.after, Region.binds md e = true → e.on ≠ i := fun e he hb heq => by
        have h1 := hall e he hb
        rw [heq, getD_both hiun] at h1
        cases h1
      have h2 := wpOp_putRd hoj (hfree j oj hoj hji hjun hnot) (fun cs b => hsel i oi cs b hi) (fun cs b => hsel j oj cs b hoj) hQ hy h1
      have hfree' : ∀ k ok, ops[k]? = some ok → k ≠ i → (listed.setIfInBounds j true).getD k true = false →
          (∀ e ∈ ok.after, Region.binds md e = true → e.on ≠ i) → oi.apart ops ok = true := fun k ok hk hki hun hno => by
        refine hfree k ok hk hki ?_ hno
        by_cases hjk : j = k
        · subst hjk; exact hjun
        · rw [getD_set_ne true hjk] at hun; exact hun
      refine wpOp_mono (fun a' w' h3 => ⟨h3.2.1, ih (listed.setIfInBounds j true) a' w' (inv.set hj) hfree' (ready_mono hr (Ne.symm hji)) h3.1 (h3.2.1 hjex) ?_⟩) h2
      rw [Array.setIfInBounds_comm _ _ hji]
      exact h3.2.2

/-- A plan: which operation comes next; true: it only reads, and may be taken first; false: nothing else can come up. -/
def mixB (md : Region.Mode) (ops : Array Oper) : List (Nat × Bool) → Array Bool → Bool
  | [], listed => (Region.ready md ops listed).isEmpty
  | (k, true) :: ms, listed => (Region.ready md ops listed).contains k && Region.free md ops listed k && (match ops[k]? with | some o => loneOp o | none => false) && mixB md ops ms (listed.setIfInBounds k true)
  | (k, false) :: ms, listed => decide (Region.ready md ops listed = [k]) && mixB md ops ms (listed.setIfInBounds k true)
def mixOK (md : Region.Mode) (ops : Array Oper) (ex : Nat) (ms : List (Nat × Bool)) : Bool :=
  Region.noSelect ops && exOK md ops ex && ms.length == ops.size && mixB md ops ms (Array.replicate ops.size false)

def QN (Q : Exit → Act → World → Prop) : Exit → Act → World → Prop := fun e a w => e = .normal ∧ Q .normal a w

/-- One walk, by the plan. -/
def wpMix (P : Program) (ops : Array Oper) (Q : Exit → Act → World → Prop) (S : World → Prop) (ex : Nat) : List (Nat × Bool) → List Oper → Act → World → Prop
  | (_, true) :: ms, o :: l, a, w => ∃ v, YieldsIn P ops (Cs S) o v a ∧ wpMix P ops Q S ex ms l (a.put o.dst v) w
  | (k, false) :: ms, o :: l, a, w => wpList P ops (fun e a' w' => e = .normal ∧ (k ≠ ex → S w') ∧ wpMix P ops Q S ex ms l a' w') [o] a w
  | _, _, a, w => Q .normal a w

/-- What is asked behind an operation that acts. -/
def MixNext (P : Program) (ops : Array Oper) (Q : Exit → Act → World → Prop) (S : World → Prop) (ex : Nat) (ms : List (Nat × Bool)) (k : Nat) (l : List Oper) : Exit → Act → World → Prop :=
  fun e a' w' => e = .normal ∧ (k ≠ ex → S w') ∧ wpMix P ops Q S ex ms l a' w'
theorem wpList_noguard {o : Oper} {a : Act} {w : World} {Q' : Exit → Act → World → Prop} (hg : o.guard = none) (h : wpList P #[] Q' [o] a w) : wpList P ops Q' [o] a w := by
  unfold wpList at *
  simp only [Region.wanted, hg, if_true] at *
  exact h
theorem wpMix_act {ex k : Nat} {ms : List (Nat × Bool)} {o : Oper} {l : List Oper} {a : Act} {w : World} (hg : o.guard = none)
    (h : ∀ N : Exit → Act → World → Prop, (∀ a' w', S w' → wpMix P ops Q S ex ms l a' w' → N .normal a' w') → wpList P #[] N [o] a w) : wpMix P ops Q S ex ((k, false) :: ms) (o :: l) a w :=
  wpList_noguard hg (h _ fun _ _ hS hk => ⟨rfl, fun _ => hS, hk⟩)
theorem wpMix_last {k : Nat} {o : Oper} {a : Act} {w : World} (hg : o.guard = none)
    (h : ∀ N : Exit → Act → World → Prop, (∀ a' w', Q .normal a' w' → N .normal a' w') → wpList P #[] N [o] a w) : wpMix P ops Q S k [(k, false)] [o] a w :=
  wpList_noguard hg (h _ fun _ _ hk => ⟨rfl, fun h => absurd rfl h, hk⟩)
/-- .. the last one, where S still holds behind it. -/
theorem wpMix_end {ex k : Nat} {o : Oper} {a : Act} {w : World} (hg : o.guard = none)
    (h : ∀ N : Exit → Act → World → Prop, (∀ a' w', S w' → Q .normal a' w' → N .normal a' w') → wpList P #[] N [o] a w) : wpMix P ops Q S ex [(k, false)] [o] a w :=
  wpList_noguard hg (h _ fun _ _ hS hk => ⟨rfl, fun _ => hS, hk⟩)
theorem wpMix_nil {ex : Nat} {a : Act} {w : World} (h : Q .normal a w) : wpMix P ops Q S ex [] [] a w := h

theorem wpOp_of_list {i : Nat} {o : Oper} {a : Act} {w : World} {K : Act → World → Prop} {Q' : Exit → Act → World → Prop} (hi : ops[i]? = some o) (hN : ∀ e a w, Q' e a w → e = .normal)
    (hK : ∀ a w, Q' .normal a w → K a w) (h : wpList P ops Q' [o] a w) : wpOp P ops Q i K a w := by
  unfold Go.wpOp
  simp only [hi]
  unfold wpList at h
  split
  · rename_i hw
    simp only [hw, if_true] at h
    rcases h with h | ⟨_, a1, w1, h1⟩
    case inr => exact absurd (hN _ _ _ h1) (by simp)
    left
    unfold Oper.wp at *
    generalize (execOp a.eval o).run P w = r at *
    cases r with
    | ok n w' =>
      cases n <;> simp only [Oper.upon] at h ⊢
      case value u => exact hK _ _ h
      case skip => exact hK _ _ h
      case defer d => exact hK _ _ h
      case enter f args =>
        refine Calls.mono h fun e w'' he => ?_
        cases e with
        | returned u => exact hK _ _ he
        | panicked c => exact absurd (hN _ _ _ he) (by simp)
        | outgrown => obtain ⟨a1, w1, h1⟩ := he; exact absurd (hN _ _ _ h1) (by simp)
      case row row args => exact Rows.mono h fun u w'' he => hK _ _ he
    | halt x w' =>
      cases x <;> simp only [Oper.upon] at h ⊢
      case panic u => exact absurd (hN _ _ _ h) (by simp)
  · rename_i hw
    simp only [hw] at h
    exact hK _ _ h

theorem mixB_head {k : Nat} {b : Bool} {ms : List (Nat × Bool)} {listed : Array Bool} (h : mixB md ops ((k, b) :: ms) listed = true) : k ∈ Region.ready md ops listed := by
  cases b with
  | true => simp only [mixB, Bool.and_eq_true] at h; simpa using h.1.1.1
  | false => simp only [mixB, Bool.and_eq_true, decide_eq_true_eq] at h; rw [h.1]; simp

theorem wpAnyT_mix {ex : Nat} (hsel : Region.noSelect ops = true) (hex : exOK md ops ex = true) : ∀ (ms : List (Nat × Bool)) (l : List Oper) (listed : Array Bool) (a : Act) (w : World),
    ms.length = l.length → (∀ (j : Nat) (x : Nat × Bool), ms[j]? = some x → l[j]? = ops[x.1]?) → Shut md ops listed → mixB md ops ms listed = true → (l ≠ [] → S w) → wpMix P ops Q S ex ms l a w →
    wpAnyT P md ops (QN Q) S ex l.length listed a w
  | [], [], listed, a, w, _, _, _, hB, _, h => ⟨by simpa [mixB] using hB, rfl, h⟩
  | [], o :: l, _, _, _, hm, _, _, _, _, _ => by simp at hm
  | m :: ms, [], _, _, _, hm, _, _, _, _, _ => by simp at hm
  | (k, true) :: ms, o :: l, listed, a, w, hm, hl, inv, hB, hS, h => by
    have h0 : ops[k]? = some o := by simpa using (hl 0 (k, true) (by simp)).symm
    have hr' := mixB_head hB
    simp only [mixB, Bool.and_eq_true, h0] at hB
    obtain ⟨⟨⟨hr, hf⟩, hlo⟩, hB'⟩ := hB
    obtain ⟨v, hy, hK⟩ := h
    have hSw := hS (by simp)
    exact wpAnyT_first h0 (Region.noSelect_spec hsel) hex (fun c a w hq => absurd hq.1 (by simp)) l.length listed a w inv (Region.free_spec h0 hf) hr' ⟨hlo, hy⟩ hSw
      (wpAnyT_mix hsel hex ms l _ _ _ (by simpa using hm) (fun j x hx => by simpa using hl (j + 1) x (by simpa using hx)) (inv.set hr') hB' (fun _ => hSw) hK)
  | (k, false) :: ms, o :: l, listed, a, w, hm, hl, inv, hB, hS, h => by
    have h0 : ops[k]? = some o := by simpa using (hl 0 (k, false) (by simp)).symm
    have hr' := mixB_head hB
    simp only [mixB, Bool.and_eq_true, decide_eq_true_eq] at hB
    obtain ⟨hr, hB'⟩ := hB
    refine ⟨fun h1 => (by rw [hr] at h1; cases h1), fun i hi => ?_⟩
    rw [hr] at hi
    have hik : i = k := by simpa using hi
    subst hik
    refine wpOp_of_list h0 (Q' := fun e a' w' => e = .normal ∧ (i ≠ ex → S w') ∧ wpMix P ops Q S ex ms l a' w') (fun e a w h => h.1) (fun a' w' h' => ⟨h'.2.1, ?_⟩) h
    refine wpAnyT_mix hsel hex ms l _ _ _ (by simpa using hm) (fun j x hx => by simpa using hl (j + 1) x (by simpa using hx)) (inv.set hr') hB' (fun hne => h'.2.1 ?_) h'.2.2
    rintro rfl
    cases ms with
    | nil => exact absurd (List.length_eq_zero_iff.1 (by simpa using hm.symm)) hne
    | cons x ms =>
      obtain ⟨k', b⟩ := x
      have h3 := (mem_ready.1 (mixB_head hB'))
      obtain ⟨hun, o', ho', _⟩ := h3
      have hlt : k' < ops.size := (Array.getElem?_eq_some_iff.1 ho').1
      by_cases hk : k' = i
      · subst hk
        have : k' < listed.size := by rw [inv.size]; exact hlt
        simp [this] at hun
      · rw [getD_set_ne true (Ne.symm hk)] at hun
        have := exOK_all hex inv hr' k' hlt hk
        rw [getD_both hun] at this
        cases this

theorem wpOp_QN {i : Nat} {a : Act} {w : World} {K : Act → World → Prop} (h : wpOp P ops (QN Q) i K a w) : wpOp P ops Q i K a w := by
  unfold Go.wpOp at *
  split
  · simpa [*] using h
  · rename_i o ho
    simp only [ho] at h
    split
    · rename_i hw
      simp only [hw, if_true] at h
      rcases h with h | ⟨_, a1, w1, h1⟩
      case inr => exact absurd h1.1 (by simp)
      left
      unfold Oper.wp at *
      generalize (execOp a.eval o).run P w = r at *
      cases r with
      | ok n w' =>
        cases n <;> simp only [Oper.upon] at h ⊢ <;> try exact h
        case enter f args =>
          refine Calls.mono h fun e w'' he => ?_
          cases e with
          | returned u => exact he
          | panicked c => exact absurd he.1 (by simp)
          | outgrown => obtain ⟨a1, w1, h1⟩ := he; exact absurd h1.1 (by simp)
      | halt x w' =>
        cases x <;> simp only [Oper.upon] at h ⊢
        case panic u => exact absurd h.1 (by simp)
    · rename_i hw; simpa [hw] using h
theorem wpAny_QN : ∀ (fuel : Nat) (listed : Array Bool) (a : Act) (w : World), wpAny P md ops (QN Q) fuel listed a w → wpAny P md ops Q fuel listed a w
  | 0, _, _, _, h => ⟨h.1, h.2.2⟩
  | fuel + 1, _, _, _, h => ⟨fun h0 => (h.1 h0).2, fun i hi => wpOp_QN (wpOp_mono (fun a' w' h' => wpAny_QN fuel _ a' w' h') (h.2 i hi))⟩

/-- THE LAW: S: what the readers lean on; ex: the number of an operation that waits for all others (or as many as there are): behind it S need not hold; σ: the plan; perm: the operations, in the plan's order. -/
theorem wp_region_mix {id : Nat} {a : Act} {w : World} {l : List Oper} (S : World → Prop) (ex : Nat) (σ : List (Nat × Bool)) (perm : List Oper → List Oper) (hm : P.follows .mixedOrders = true) (hB : mixOK .any l.toArray ex σ = true)
    (hp : perm l = σ.filterMap fun x => l[x.1]?) (hS : S w.drew)
    (h : wpMix P l.toArray Q S ex σ (perm l) a w.drew) : (Code.region id l.toArray true).wp P Q a w := by
  unfold mixOK at hB
  simp only [Bool.and_eq_true, beq_iff_eq] at hB
  obtain ⟨⟨⟨hsel, hex⟩, hlen⟩, hB⟩ := hB
  have hall : ∀ (σ : List (Nat × Bool)) (listed : Array Bool), mixB .any l.toArray σ listed = true → ∀ x ∈ σ, ∃ o, l[x.1]? = some o := by
    intro σ
    induction σ with
    | nil => intro _ _ x hx; cases hx
    | cons y σ ih =>
      intro listed hB x hx
      obtain ⟨k, b⟩ := y
      rcases List.mem_cons.1 hx with rfl | hx'
      · obtain ⟨_, o, ho, _⟩ := mem_ready.1 (mixB_head hB)
        exact ⟨o, by simpa using ho⟩
      · cases b with
        | true => simp only [mixB, Bool.and_eq_true] at hB; exact ih _ hB.2 x hx'
        | false => simp only [mixB, Bool.and_eq_true] at hB; exact ih _ hB.2 x hx'
  have hfm : ∀ (σ : List (Nat × Bool)), (∀ x ∈ σ, ∃ o, l[x.1]? = some o) → σ.length = (σ.filterMap fun x => l[x.1]?).length ∧ ∀ (j : Nat) (x : Nat × Bool), σ[j]? = some x → (σ.filterMap fun x => l[x.1]?)[j]? = l[x.1]? := by
    intro σ
    induction σ with
    | nil => intro _; exact ⟨rfl, by simp⟩
    | cons y σ ih =>
      intro hx
      obtain ⟨o, ho⟩ := hx y (by simp)
      obtain ⟨h1, h2⟩ := ih (fun x h => hx x (by simp [h]))
      rw [show List.filterMap (fun x : Nat × Bool => l[x.1]?) (y :: σ) = o :: List.filterMap (fun x : Nat × Bool => l[x.1]?) σ from List.filterMap_cons_some (f := fun x : Nat × Bool => l[x.1]?) ho]
      refine ⟨by simp [h1], fun j x hj => ?_⟩
      cases j with
      | zero =>
        have : y = x := by simpa using hj
        subst this
        rw [ho]; rfl
      | succ j => simpa using h2 j x (by simpa using hj)
  obtain ⟨h1, h2⟩ := hfm σ (hall σ _ hB)
  refine wp_region_any hm (wpAny_QN _ _ _ _ ?_)
  have := wpAny_of_T _ _ _ _ (wpAnyT_mix (Q := Q) (S := S) (P := P) hsel hex σ (perm l) (Array.replicate l.toArray.size false) a w.drew (by rw [hp]; exact h1) (fun j x hj => by rw [hp, h2 j x hj]; simp) Shut.start hB (fun _ => hS) h)
  rw [hp, ← h1, hlen] at this
  exact this

/-- A run of operations that only read. -/
theorem wpMix_reads {ex : Nat} : ∀ (n : Nat) (ms : List (Nat × Bool)) (l : List Oper) (a : Act) (w : World), (ms.take n).all (fun x => x.2) = true → n ≤ ms.length → n ≤ l.length →
    wpQuiet P ops (Cs S) (fun a' => wpMix P ops Q S ex (ms.drop n) (l.drop n) a' w) (l.take n) a → wpMix P ops Q S ex ms l a w
  | 0, ms, l, a, w, _, _, _, h => by simpa [wpQuiet] using h
  | n + 1, [], l, a, w, _, h1, _, _ => by simp at h1
  | n + 1, m :: ms, [], a, w, _, _, h1, _ => by simp at h1
  | n + 1, (k, m) :: ms, o :: l, a, w, hm, h1, h2, h => by
    simp only [List.take_succ_cons, List.all_cons, Bool.and_eq_true] at hm
    obtain ⟨rfl, hm⟩ := hm
    simp only [List.take_succ_cons, List.drop_succ_cons] at h
    unfold wpQuiet at h
    by_cases hw : Region.wanted o (yielded ops a.tmps) = true
    · rw [if_pos hw] at h
      obtain ⟨v, h3, h4⟩ := h
      exact ⟨v, .inl ⟨hw, h3⟩, wpMix_reads n ms l _ w hm (by simpa using h1) (by simpa using h2) h4⟩
    · rw [if_neg hw] at h
      exact ⟨undef, .inr ⟨by simpa using hw, rfl⟩, wpMix_reads n ms l _ w hm (by simpa using h1) (by simpa using h2) h⟩
theorem wpMix_rd {ex : Nat} (n : Nat) (ms : List (Nat × Bool)) (l : List Oper) (a : Act) (w : World) (hm : (ms.take n).all (fun x => x.2) = true) (h1 : n ≤ ms.length) (h2 : n ≤ l.length)
    (h : ∀ N : Act → Prop, (∀ a', wpMix P ops Q S ex (ms.drop n) (l.drop n) a' w → N a') → wpQuiet P ops (Cs S) N (l.take n) a) : wpMix P ops Q S ex ms l a w :=
  wpMix_reads n ms l a w hm h1 h2 (h _ fun _ h => h)

/-! ### the plain case: n readers ahead, then what acts, one behind the other, in the text's order -/
def wpTl (P : Program) (Q : Exit → Act → World → Prop) (S : World → Prop) : List Oper → Act → World → Prop
  | [], a, w => Q .normal a w
  | o :: l, a, w => wpList P #[] (fun e a' w' => e = .normal ∧ (l ≠ [] → S w') ∧ wpTl P Q S l a' w') [o] a w
theorem wpTl_nil {a : Act} {w : World} (h : Q .normal a w) : wpTl P Q S [] a w := h
theorem wpTl_act {o : Oper} {l : List Oper} {a : Act} {w : World} (h : ∀ N : Exit → Act → World → Prop, (∀ a' w', S w' → wpTl P Q S l a' w' → N .normal a' w') → wpList P #[] N [o] a w) : wpTl P Q S (o :: l) a w :=
  h _ fun _ _ hS hk => ⟨rfl, fun _ => hS, hk⟩
theorem wpTl_last {o : Oper} {a : Act} {w : World} (h : ∀ N : Exit → Act → World → Prop, (∀ a' w', Q .normal a' w' → N .normal a' w') → wpList P #[] N [o] a w) : wpTl P Q S [o] a w :=
  h _ fun _ _ hk => ⟨rfl, fun h => absurd rfl h, hk⟩
def actPlan : Nat → Nat → List (Nat × Bool)
  | _, 0 => []
  | k, m + 1 => (k, false) :: actPlan (k + 1) m
def rdPlan : Nat → Nat → List (Nat × Bool)
  | _, 0 => []
  | k, m + 1 => (k, true) :: rdPlan (k + 1) m
theorem actPlan_len (k m : Nat) : (actPlan k m).length = m := by
  induction m generalizing k with
  | zero => rfl
  | succ m ih => simp [actPlan, ih]
theorem rdPlan_len (k m : Nat) : (rdPlan k m).length = m := by
  induction m generalizing k with
  | zero => rfl
  | succ m ih => simp [rdPlan, ih]
theorem rdPlan_all (k m : Nat) : (rdPlan k m).all (fun x => x.2) = true := by
  induction m generalizing k with
  | zero => rfl
  | succ m ih => simp [rdPlan, ih]
theorem plan_map (l : List Oper) : ∀ (n k : Nat), k + n = l.length → (rdPlan k n).filterMap (fun x => l[x.1]?) = l.drop k ∧ (actPlan k n).filterMap (fun x => l[x.1]?) = l.drop k := by
  intro n
  induction n with
  | zero => intro k hk; simp [rdPlan, actPlan, List.drop_of_length_le (show l.length ≤ k by omega)]
  | succ n ih =>
    intro k hk
    have hlt : k < l.length := by omega
    have h0 : l[k]? = some l[k] := List.getElem?_eq_getElem hlt
    obtain ⟨h1, h2⟩ := ih (k + 1) (by omega)
    have e := List.drop_eq_getElem_cons hlt
    refine ⟨?_, ?_⟩
    · rw [rdPlan, show List.filterMap (fun x : Nat × Bool => l[x.1]?) ((k, true) :: rdPlan (k + 1) n) = l[k] :: List.filterMap (fun x : Nat × Bool => l[x.1]?) (rdPlan (k + 1) n) from List.filterMap_cons_some (f := fun x : Nat × Bool => l[x.1]?) h0, h1, e]
    · rw [actPlan, show List.filterMap (fun x : Nat × Bool => l[x.1]?) ((k, false) :: actPlan (k + 1) n) = l[k] :: List.filterMap (fun x : Nat × Bool => l[x.1]?) (actPlan (k + 1) n) from List.filterMap_cons_some (f := fun x : Nat × Bool => l[x.1]?) h0, h2, e]
theorem plan_take (l : List Oper) : ∀ (n k : Nat), k + n ≤ l.length → (rdPlan k n).filterMap (fun x => l[x.1]?) = (l.drop k).take n := by
  intro n
  induction n with
  | zero => intro k hk; simp [rdPlan]
  | succ n ih =>
    intro k hk
    have hlt : k < l.length := by omega
    have h0 : l[k]? = some l[k] := List.getElem?_eq_getElem hlt
    rw [rdPlan, show List.filterMap (fun x : Nat × Bool => l[x.1]?) ((k, true) :: rdPlan (k + 1) n) = l[k] :: List.filterMap (fun x : Nat × Bool => l[x.1]?) (rdPlan (k + 1) n) from List.filterMap_cons_some (f := fun x : Nat × Bool => l[x.1]?) h0,
      ih (k + 1) (by omega), List.drop_eq_getElem_cons hlt, List.take_succ_cons]
def lexOK (l : List Oper) (n : Nat) : Bool :=
  mixOK .any l.toArray (l.length - 1) (rdPlan 0 n ++ actPlan n (l.length - n)) && decide (n < l.length) && (l.drop n).all (fun o => o.guard.isNone)
theorem wpMix_of_tl : ∀ (l : List Oper) (k ex : Nat) (a : Act) (w : World), (l ≠ [] → ex + 1 = k + l.length) → l.all (fun o => o.guard.isNone) = true → wpTl P Q S l a w → wpMix P ops Q S ex (actPlan k l.length) l a w
  | [], _, _, _, _, _, _, h => h
  | o :: l, k, ex, a, w, hex, hg, h => by
    simp only [List.all_cons, Bool.and_eq_true, Option.isNone_iff_eq_none] at hg
    have hex' := hex (by simp)
    simp only [List.length_cons] at hex'
    have hmono : ∀ a' w', (l ≠ [] → S w') ∧ wpTl P Q S l a' w' → (k ≠ ex → S w') ∧ wpMix P ops Q S ex (actPlan (k + 1) l.length) l a' w' := fun a' w' h' => ⟨fun hk => h'.1 (fun hl => by
      subst hl
      simp at hex'
      omega), wpMix_of_tl l (k + 1) ex a' w' (fun _ => by omega) hg.2 h'.2⟩
    refine wpList_noguard hg.1 ?_
    unfold wpTl at h
    unfold wpList at *
    simp only [Region.wanted, hg.1, if_true] at *
    rcases h with h | ⟨_, a1, w1, h1⟩
    case inr => exact absurd h1.1 (by simp)
    left
    unfold Oper.wp at *
    generalize (execOp a.eval o).run P w = r at *
    cases r with
    | ok n w' =>
      cases n <;> simp only [Oper.upon] at h ⊢
      case value u => exact ⟨rfl, hmono _ _ h.2⟩
      case skip => exact ⟨rfl, hmono _ _ h.2⟩
      case defer d => exact ⟨rfl, hmono _ _ h.2⟩
      case enter f args =>
        refine Calls.mono h fun e w'' he => ?_
        cases e with
        | returned u => exact ⟨rfl, hmono _ _ he.2⟩
        | panicked c => exact absurd he.1 (by simp)
        | outgrown => obtain ⟨a1, w1, h1⟩ := he; exact absurd h1.1 (by simp)
      case row row args => exact Rows.mono h fun u w'' he => ⟨rfl, hmono _ _ he.2⟩
    | halt x w' =>
      cases x <;> simp only [Oper.upon] at h ⊢
      case panic u => exact absurd h.1 (by simp)
theorem wp_region_lex {id : Nat} {a : Act} {w : World} {l : List Oper} (S : World → Prop) (n : Nat) (hm : P.follows .mixedOrders = true) (hB : lexOK l n = true) (hS : S w.drew)
    (h : Nonempty (SW S) → (∀ x : SW S, S x.w) → ∀ N : Act → Prop, (∀ a', wpTl P Q S (l.drop n) a' w.drew → N a') → wpQuiet P l.toArray (fun w' => ∃ x : SW S, w' = x.w) N (l.take n) a) : (Code.region id l.toArray true).wp P Q a w := by
  unfold lexOK at hB
  simp only [Bool.and_eq_true, decide_eq_true_eq] at hB
  obtain ⟨⟨hB, hn⟩, hg⟩ := hB
  have hp : l = (rdPlan 0 n ++ actPlan n (l.length - n)).filterMap fun x => l[x.1]? := by
    rw [List.filterMap_append, plan_take l n 0 (by omega), (plan_map l (l.length - n) n (by omega)).2]
    simp
  refine wp_region_mix S (l.length - 1) (rdPlan 0 n ++ actPlan n (l.length - n)) (fun l => l) hm hB hp hS ?_
  refine wpMix_rd n _ _ _ _ ?_ (by simp [rdPlan_len]) (by omega) ?_
  · rw [List.take_append_of_le_length (by simp [rdPlan_len]), List.take_of_length_le (by simp [rdPlan_len])]
    exact rdPlan_all _ _
  · intro N hN
    refine h ⟨⟨_, hS⟩⟩ (fun x => x.h) N fun a' ht => hN a' ?_
    have e : (rdPlan 0 n ++ actPlan n (l.length - n)).drop n = actPlan n (l.drop n).length := by
      rw [List.drop_append_of_le_length (by simp [rdPlan_len]), List.drop_of_length_le (by simp [rdPlan_len])]
      simp
    rw [e]
    exact wpMix_of_tl (l.drop n) n _ _ _ (fun _ => by simp; omega) hg ht
end
end Go.Proofs.YtnpkpikoeijdcaaDoor
