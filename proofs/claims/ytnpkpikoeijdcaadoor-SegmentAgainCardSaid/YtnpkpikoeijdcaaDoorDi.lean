/- A readable segment; segment.written whole; bytes into a string. -/
import Derived.Test.YtnpkpikoeijdcaaDoorDh
import Derived.Laws.BytesArg
set_option linter.unusedVariables false
set_option linter.unusedSimpArgs false
namespace Go.Proofs.YtnpkpikoeijdcaaDoor
open Go Go.RowKit

structure SgOk (s : Sg) : Prop where
  code : 0 ≤ s.code ∧ s.code ≤ 255
  qs : ∀ q ∈ s.quants, QtOk q
  qn : s.quants.length ≤ 1100000
  hs : ∀ h ∈ s.huffs, HfOk h
  hn : s.huffs.length ≤ 1100000
  cs : ∀ c ∈ s.frame.comps, CmOk c
  ps : ∀ p ∈ s.parts, PtOk p
  ds : s.data.length ≤ 140737488351232
/-- A segment that can be read. -/
def SgR (w : World) (s : Sg) (cs : Array Value) : Prop :=
  ∃ (qA hA fA pA iA : Option Addr) (qc hc fc pc ic : Nat) (hcs : List Value) (ds : ByteArray),
    cs = #[.int .u8 s.code, .int .i64 s.at_, .int .i64 s.end_, .slice qA s.quants.length qc, .slice hA s.huffs.length hc, .int .u8 s.frame.kind, .int .i64 s.frame.width, .int .i64 s.frame.height, .slice fA s.frame.comps.length fc, .slice pA s.parts.length pc, .slice iA s.ids.length ic, .int .i64 s.restart, .string ds] ∧
    bl ds = s.data ∧
    (Rd w w.heap.size 66 qA s.quants.length (s.quants.flatMap qtCells) ∧ s.quants.length ≤ qc ∧ qc ≤ maxLen) ∧
    (Rd w w.heap.size 19 hA s.huffs.length hcs ∧ VL HfV w s.huffs hcs ∧ s.huffs.length ≤ hc ∧ hc ≤ maxLen) ∧
    (Rd w w.heap.size 4 fA s.frame.comps.length (cmsCells s.frame.comps) ∧ s.frame.comps.length ≤ fc ∧ fc ≤ maxLen) ∧
    (Rd w w.heap.size 3 pA s.parts.length (ptsCells s.parts) ∧ s.parts.length ≤ pc ∧ pc ≤ maxLen) ∧
    (Rd w w.heap.size 1 iA s.ids.length (u8s s.ids) ∧ s.ids.length ≤ ic ∧ ic ≤ maxLen)
theorem Rd.kpn {w w' : World} {size n : Nat} {A : Option Addr} {xs : List Value} (h : Rd w w.heap.size size A n xs) (hk : Kp Nn w w') : Rd w' w'.heap.size size A n xs :=
  (h.kp hk (Nat.le_refl _) (fun _ _ h => h)).more hk.size
theorem SgR.size {w : World} {s : Sg} {cs : Array Value} (h : SgR w s cs) : cs.size = 13 := by
  obtain ⟨_, _, _, _, _, _, _, _, _, _, _, _, rfl, _⟩ := h
  rfl
theorem SgR.kp {w w' : World} {s : Sg} {cs : Array Value} (h : SgR w s cs) (hk : Kp Nn w w') : SgR w' s cs := by
  obtain ⟨qA, hA, fA, pA, iA, qc, hc, fc, pc, ic, hcs, ds, h1, h2, ⟨q1, q2⟩, ⟨h3, h4, h5⟩, ⟨f1, f2⟩, ⟨p1, p2⟩, ⟨i1, i2⟩⟩ := h
  exact ⟨qA, hA, fA, pA, iA, qc, hc, fc, pc, ic, hcs, ds, h1, h2, ⟨q1.kpn hk, q2⟩, ⟨h3.kpn hk, h4.mono (fun a c h => h.kp hk (fun i h => absurd h (fun h => h))), h5⟩, ⟨f1.kpn hk, f2⟩, ⟨p1.kpn hk, p2⟩, ⟨i1.kpn hk, i2⟩⟩
theorem vl_qt {w : World} : ∀ {l : List Qt} {cs : List Value}, VL QtV w l cs → cs = l.flatMap qtCells ∧ ∀ q ∈ l, q.tab.length = 64
  | [], cs, h => ⟨h, by simp⟩
  | a :: l, cs, ⟨c, r, e, h1, h2⟩ => by
    obtain ⟨h3, h4⟩ := vl_qt h2
    refine ⟨by rw [e, h3, h1.1]; rfl, fun q hq => ?_⟩
    rcases List.mem_cons.1 hq with rfl | hq
    · exact h1.2
    · exact h4 q hq
theorem SgV.rd {w : World} {base : Nat} {s : Sg} {cs : Array Value} (h : SgV w base s cs) : SgR w s cs := by
  obtain ⟨qv, hv, fv, pv, iv, qcs, hcs, ds, h1, h2, q1, q2, h3, h4, f1, p1, i1⟩ := h
  obtain ⟨qA, qc, rfl, q3, q4, q5⟩ := Rd.own q1
  obtain ⟨hA, hc, rfl, h5, h6, h7⟩ := Rd.own h3
  obtain ⟨fA, fc, rfl, f3, f4, f5⟩ := Rd.own f1
  obtain ⟨pA, pc, rfl, p3, p4, p5⟩ := Rd.own p1
  obtain ⟨iA, ic, rfl, i3, i4, i5⟩ := Rd.own i1
  obtain ⟨rfl, _⟩ := vl_qt q2
  exact ⟨qA, hA, fA, pA, iA, qc, hc, fc, pc, ic, hcs, ds, h1, h2, ⟨q5, q3, q4⟩, ⟨h7, h4, h5, h6⟩, ⟨f5, f3, f4⟩, ⟨p5, p3, p4⟩, ⟨i5, i3, i4⟩⟩

theorem written_c (w : World) (s : Sg) (cs : Array Value) (h : SgR w s cs) (ho : SgOk s) : Calls Tryd.prog 42 #[.agg cs] w fun e w' => WrPost w (wrData s) e w' := by
  obtain ⟨qA, hA, fA, pA, iA, qc, hc, fc, pc, ic, hcs, ds, rfl, h2, ⟨q1, q2, q3⟩, ⟨h3, h4, h5, h6⟩, ⟨f1, f2, f3⟩, ⟨p1, p2, p3⟩, ⟨i1, i2, i3⟩⟩ := h
  unfold wrData
  by_cases c1 : s.code = 219
  · rw [if_pos c1, c1]
    exact written_dqt w w.heap.size _ _ _ _ _ _ _ _ _ _ _ s.quants qA qc q1 (Nat.le_refl _) q2 q3 ho.qs ho.qn
  rw [if_neg c1]
  by_cases c2 : s.code = 196
  · rw [if_pos c2, c2]
    exact written_dht w w.heap.size _ _ _ _ _ _ _ _ _ _ _ s.huffs hcs hA hc h3 h4 (Nat.le_refl _) h5 h6 ho.hs ho.hn
  rw [if_neg c2]
  by_cases c3 : s.code = 192
  · rw [if_pos (.inl c3), c3]
    exact written_192 w w.heap.size _ _ _ _ _ _ _ _ s.frame fA fc f1 (Nat.le_refl _) f2 f3 ho.cs
  by_cases c4 : s.code = 193
  · rw [if_pos (.inr c4), c4]
    exact written_193 w w.heap.size _ _ _ _ _ _ _ _ s.frame fA fc f1 (Nat.le_refl _) f2 f3 ho.cs
  rw [if_neg (fun h => h.elim c3 c4)]
  by_cases c5 : s.code = 221
  · rw [if_pos c5, c5]
    exact written_dri w _ _ _ _ _ _ _ _ _ _ _ _
  rw [if_neg c5]
  by_cases c6 : s.code = 218
  · rw [if_pos c6, c6]
    exact written_sos w w.heap.size _ _ _ _ _ _ _ _ _ _ s.ids s.parts pA iA pc ic p1 i1 (Nat.le_refl _) p2 p3 i2 i3 ho.ps
  rw [if_neg c6, ← h2]
  exact written_other w _ _ _ _ _ _ _ _ _ _ _ _ _ (by have := ho.ds; rw [← h2, bl_length] at this; exact this) c1 c2 c3 c4 c5 c6

/-! ### bytes into a string -/
open Classical in
noncomputable def rdBs (P : Program) (w : World) (v : Value) : Option ByteArray := if h : ∃ s, (convert 28 9 v).run P w = .ok (.string s) w then some (Classical.choose h) else none
theorem rdBs_of {w : World} {v : Value} {s : ByteArray} {P : Program} (h : (convert 28 9 v).run P w = .ok (.string s) w) : rdBs P w v = some s := by
  unfold rdBs
  have hex : ∃ s, (convert 28 9 v).run P w = .ok (.string s) w := ⟨s, h⟩
  rw [dif_pos hex]
  have h2 := h.symm.trans (Classical.choose_spec hex)
  injection h2 with h3 h4
  injection h3 with h5
  rw [← h5]
theorem ex_tostr (P : Program) (ρ : Operand → Value) (dst : Option Tmp) (x : Operand) (ty' : TypeId) (pos : String) (after : Array Edge) (guard : Option (Nat × Bool)) (w : World) :
    Sem.run P (execOp ρ ⟨dst, .convert 28 9 x, ty', pos, after, guard⟩) w = (match rdBs P w (ρ x) with
      | some s => .ok (.value (.string s)) w
      | none => orRun P ρ ⟨dst, .convert 28 9 x, ty', pos, after, guard⟩ w) := by
  split
  · rename_i s h
    unfold rdBs at h
    split at h
    · rename_i hex
      have h2 := Classical.choose_spec hex
      injection h with h
      rw [h] at h2
      simp only [execOp, Sem.run_bind, h2, Result.andThen_ok, Sem.run_pure]
    · cases h
  · rfl
theorem Bs.str {w : World} {A : Option Addr} {n : Nat} {l : List Int} (h : Bs w A n l) (c : Nat) : rdBs Tryd.prog w (.slice A n c) = some (stOf l) := by
  apply rdBs_of
  rcases Nat.eq_zero_or_pos n with rfl | hn
  · have hl : l = [] := List.length_eq_zero_iff.1 h.1
    subst hl
    cases A with
    | none => exact run_convert_bytes_nil w 28 5 Tryd.underlying28 Tryd.underlying5 0 c 9 Tryd.underlying9
    | some a =>
      rw [run_convert_bytes_string w 28 9 5 (some a) 0 c Tryd.underlying28 Tryd.underlying5 Tryd.underlying9]
      have hl := run_loadCells_list (P := Tryd.prog) w a [] (fun j v hj => by simp at hj)
      exact run_bytesToString w a 0 c [] hl
  · have hrd := h.rd
    obtain ⟨b, off, rfl, _, hc⟩ := hrd.at_ hn
    have := run_convert_bytes_arg (P := Tryd.prog) w 28 5 Tryd.underlying28 Tryd.underlying5 b off n c l h.1 (fun i hi => hc i _ (u8s_get l i (by rw [h.1]; exact hi))) 9 Tryd.underlying9
    exact this
theorem By.str {w : World} {base : Nat} {v : Value} {l : List Int} (h : By w base v l) : rdBs Tryd.prog w v = some (stOf l) := by
  obtain ⟨A, c, rfl, h1, h2⟩ := h.form
  exact h.bs.str c
theorem bl_append (s t : ByteArray) : bl (s ++ t) = bl s ++ bl t := by
  simp [bl]
end Go.Proofs.YtnpkpikoeijdcaaDoor
