/- A drawn region in which two chains of effects run beside each other: readers first, then a tree of orders. -/
import Derived.Test.YtnpkpikoeijdcaaDoorDe
set_option linter.unusedVariables false
set_option linter.unusedSimpArgs false
namespace Go.Proofs.YtnpkpikoeijdcaaDoor
open Go Go.RowKit
section
variable {P : Program} {Q : Exit → Act → World → Prop} {S : World → Prop}

def rdB (md : Region.Mode) (ops : Array Oper) : List Nat → Array Bool → Bool
  | [], _ => true
  | k :: σ, listed => (Region.ready md ops listed).contains k && Region.free md ops listed k && (match ops[k]? with | some o => loneOp o | none => false) && rdB md ops σ (listed.setIfInBounds k true)
def lstB : List Nat → Array Bool → Array Bool
  | [], listed => listed
  | k :: σ, listed => lstB σ (listed.setIfInBounds k true)
theorem wpAnyT_rds {md : Region.Mode} {ops : Array Oper} {ex : Nat} (hsel : Region.noSelect ops = true) (hex : exOK md ops ex = true) (m : Nat) : ∀ (σ : List Nat) (l : List Oper) (listed : Array Bool) (a : Act) (w : World),
    σ.length = l.length → (∀ (j : Nat) (x : Nat), σ[j]? = some x → l[j]? = ops[x]?) → Shut md ops listed → rdB md ops σ listed = true → S w →
    wpQuiet P ops (Cs S) (fun a' => wpAnyT P md ops (QN Q) S ex m (lstB σ listed) a' w) l a → wpAnyT P md ops (QN Q) S ex (m + l.length) listed a w
  | [], [], listed, a, w, _, _, _, _, _, h => by simpa [wpQuiet, lstB] using h
  | [], o :: l, _, _, _, hm, _, _, _, _, _ => by simp at hm
  | k :: σ, [], _, _, _, hm, _, _, _, _, _ => by simp at hm
  | k :: σ, o :: l, listed, a, w, hm, hl, inv, hB, hS, h => by
    have h0 : ops[k]? = some o := by simpa using (hl 0 k (by simp)).symm
    simp only [rdB, Bool.and_eq_true, h0] at hB
    obtain ⟨⟨⟨hr, hf⟩, hlo⟩, hB'⟩ := hB
    have hr' : k ∈ Region.ready md ops listed := by simpa using hr
    have hl' := fun (j : Nat) (x : Nat) (hx : σ[j]? = some x) => (by simpa using hl (j + 1) x (by simpa using hx) : l[j]? = ops[x]?)
    unfold wpQuiet at h
    by_cases hw : Region.wanted o (yielded ops a.tmps) = true
    · rw [if_pos hw] at h
      obtain ⟨v, h3, h4⟩ := h
      exact wpAnyT_first h0 (Region.noSelect_spec hsel) hex (fun c a w hq => absurd hq.1 (by simp)) (m + l.length) listed a w inv (Region.free_spec h0 hf) hr' ⟨hlo, .inl ⟨hw, h3⟩⟩ hS
        (wpAnyT_rds hsel hex m σ l _ _ w (by simpa using hm) hl' (inv.set hr') hB' hS h4)
    · rw [if_neg hw] at h
      exact wpAnyT_first (v := undef) h0 (Region.noSelect_spec hsel) hex (fun c a w hq => absurd hq.1 (by simp)) (m + l.length) listed a w inv (Region.free_spec h0 hf) hr' ⟨hlo, .inr ⟨by simpa using hw, rfl⟩⟩ hS
        (wpAnyT_rds hsel hex m σ l _ _ w (by simpa using hm) hl' (inv.set hr') hB' hS h)
def forkOK (l : List Oper) (ex : Nat) (σ : List Nat) (m : Nat) : Bool :=
  Region.noSelect l.toArray && exOK .any l.toArray ex && rdB .any l.toArray σ (Array.replicate l.length false) && decide (m + σ.length = l.length)
theorem wp_region_fork {id : Nat} {a : Act} {w : World} {l : List Oper} (S : World → Prop) (ex : Nat) (σ : List Nat) (m : Nat) (perm : List Oper → List Oper) (hm : P.follows .mixedOrders = true) (hB : forkOK l ex σ m = true)
    (hp : σ.map (fun x => l[x]?) = (perm l).map some) (hS : S w.drew)
    (h : Nonempty (SW S) → (∀ x : SW S, S x.w) → ∀ N : Act → Prop, (∀ a', wpAnyT P .any l.toArray (QN Q) S ex m (lstB σ (Array.replicate l.length false)) a' w.drew → N a') → wpQuiet P l.toArray (fun w' => ∃ x : SW S, w' = x.w) N (perm l) a) :
    (Code.region id l.toArray true).wp P Q a w := by
  obtain ⟨rs, hrs⟩ : ∃ r, r = perm l := ⟨_, rfl⟩
  rw [← hrs] at hp h
  unfold forkOK at hB
  simp only [Bool.and_eq_true, decide_eq_true_eq] at hB
  obtain ⟨⟨⟨hsel, hex⟩, hB⟩, hlen⟩ := hB
  refine wp_region_any hm (wpAny_QN _ _ _ _ ?_)
  have hlr : σ.length = rs.length := by simpa using congrArg List.length hp
  have hst : Shut .any l.toArray (Array.replicate l.length false) := by simpa using (Shut.start (md := .any) (ops := l.toArray))
  have := wpAny_of_T _ _ _ _ (wpAnyT_rds (P := P) (Q := Q) (S := S) hsel hex m σ rs (Array.replicate l.length false) a w.drew hlr (fun j x hj => by
    have h1 : (σ.map (fun x => l[x]?))[j]? = some l[x]? := by simp [hj]
    rw [hp] at h1
    have hj' : j < rs.length := by
      by_cases h : j < rs.length
      · exact h
      · rw [List.getElem?_eq_none (by simpa using h)] at h1; cases h1
    have h2 : some (rs[j]) = l[x]? := by simpa [hj'] using h1
    rw [List.getElem?_eq_getElem hj', h2]; simp) hst hB hS
    (h ⟨⟨_, hS⟩⟩ (fun x => x.h) _ fun a' ha => ha))
  rw [← hlr, hlen] at this
  simpa using this
theorem drop_at {l : List Oper} {i : Nat} {oi : Oper} {r : List Oper} (hi : l.drop i = oi :: r) : l.toArray[i]? = some oi := by
  have := congrArg List.head? hi
  simpa [List.head?_drop] using this
theorem wpAnyT_one {ex fuel : Nat} {l : List Oper} {listed : Array Bool} {a : Act} {w : World} (i : Nat) {oi : Oper} {r : List Oper} (hr : Region.ready .any l.toArray listed = [i]) (hi : l.drop i = oi :: r) (hg : oi.guard = none)
    (h : ∀ N : Exit → Act → World → Prop, (∀ a' w', (i ≠ ex → S w') → wpAnyT P .any l.toArray (QN Q) S ex fuel (listed.setIfInBounds i true) a' w' → N .normal a' w') → wpList P #[] N [oi] a w) : wpAnyT P .any l.toArray (QN Q) S ex (fuel + 1) listed a w :=
  ⟨fun h1 => (by rw [hr] at h1; cases h1), fun i' hi' => by
    rw [hr] at hi'
    obtain rfl : i' = i := by simpa using hi'
    exact wpOp_of_list (drop_at hi) (Q' := fun e a' w' => e = .normal ∧ ((i' ≠ ex → S w') ∧ wpAnyT P .any l.toArray (QN Q) S ex fuel (listed.setIfInBounds i' true) a' w')) (fun _ _ _ h => h.1) (fun a' w' h' => h'.2) (wpList_noguard hg (h _ (fun a' w' h1 h2 => ⟨rfl, h1, h2⟩)))⟩
theorem wpAnyT_two {ex fuel : Nat} {l : List Oper} {listed : Array Bool} {a : Act} {w : World} (i j : Nat) {oi oj : Oper} {r s : List Oper} (hr : Region.ready .any l.toArray listed = [i, j]) (hi : l.drop i = oi :: r) (hj : l.drop j = oj :: s) (hg : oi.guard = none) (hg2 : oj.guard = none)
    (h : ∀ N : Exit → Act → World → Prop, (∀ a' w', (i ≠ ex → S w') → wpAnyT P .any l.toArray (QN Q) S ex fuel (listed.setIfInBounds i true) a' w' → N .normal a' w') → wpList P #[] N [oi] a w)
    (h2 : ∀ N : Exit → Act → World → Prop, (∀ a' w', (j ≠ ex → S w') → wpAnyT P .any l.toArray (QN Q) S ex fuel (listed.setIfInBounds j true) a' w' → N .normal a' w') → wpList P #[] N [oj] a w) : wpAnyT P .any l.toArray (QN Q) S ex (fuel + 1) listed a w :=
  ⟨fun h1 => (by rw [hr] at h1; cases h1), fun i' hi' => by
    rw [hr] at hi'
    simp only [List.mem_cons, List.not_mem_nil, or_false] at hi'
    rcases hi' with rfl | rfl
    · exact wpOp_of_list (drop_at hi) (Q' := fun e a' w' => e = .normal ∧ ((i' ≠ ex → S w') ∧ wpAnyT P .any l.toArray (QN Q) S ex fuel (listed.setIfInBounds i' true) a' w')) (fun _ _ _ h => h.1) (fun a' w' h' => h'.2) (wpList_noguard hg (h _ (fun a' w' h1 h2 => ⟨rfl, h1, h2⟩)))
    · exact wpOp_of_list (drop_at hj) (Q' := fun e a' w' => e = .normal ∧ ((i' ≠ ex → S w') ∧ wpAnyT P .any l.toArray (QN Q) S ex fuel (listed.setIfInBounds i' true) a' w')) (fun _ _ _ h => h.1) (fun a' w' h' => h'.2) (wpList_noguard hg2 (h2 _ (fun a' w' h1 h2 => ⟨rfl, h1, h2⟩)))⟩
theorem wpAnyT_end {ex : Nat} {l : List Oper} {listed : Array Bool} {a : Act} {w : World} (hr : Region.ready .any l.toArray listed = []) (h : Q .normal a w) : wpAnyT P .any l.toArray (QN Q) S ex 0 listed a w := ⟨hr, rfl, h⟩
end
end Go.Proofs.YtnpkpikoeijdcaaDoor
