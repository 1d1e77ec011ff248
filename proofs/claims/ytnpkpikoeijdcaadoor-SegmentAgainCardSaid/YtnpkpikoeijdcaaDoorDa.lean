/- Contract: segment.two; a row of bytes that grows. -/
import Derived.Test.YtnpkpikoeijdcaaDoorCi
import Derived.Test.YtnpkpikoeijdcaaDoorSpecW
set_option linter.unusedVariables false
set_option linter.unusedSimpArgs false
namespace Go.Proofs.YtnpkpikoeijdcaaDoor
open Go Go.RowKit

/-- append of so many new elements, laid just before. -/
theorem ap_new {P : Program} (w : World) (t : TypeId) (base : Nat) (e : TypeId) (i : TypeInfo) (z : Value) (size bytes : Nat) (ht : P.underlying t = some (.slice e)) (hi : P.info? e = some i) (hz : i.zero = some z)
    (hsize : i.size = size) (hby : i.bytes = bytes) (hzs : z.cells.size = size) (hsz : 0 < size) (v : Value) (n : Nat) (xs : List Value) (hown : w.ownsRow base e size v n xs)
    (cs : Array Value) (m : Nat) (hm : 0 < m) (hl : cs.size = m * size) (h1 : ∀ u ∈ cs.toList, u.oneCell' = true)
    (h63 : n + m ≤ maxLen) (hbytes : (n + m) * bytes ≤ 140737488355328) (hbase : base ≤ w.heap.size) :
    apOk P t v (.slice (some ⟨w.heap.size, 0, none⟩) m m) (w.alloc (.cells cs e)) = true ∧ ∃ g cap w', apV P t v (.slice (some ⟨w.heap.size, 0, none⟩) m m) (w.alloc (.cells cs e)) = .slice (some ⟨g, 0, none⟩) (n + m) cap ∧
      apW P t v (.slice (some ⟨w.heap.size, 0, none⟩) m m) (w.alloc (.cells cs e)) = w' ∧
      w'.ownsRow base e size (.slice (some ⟨g, 0, none⟩) (n + m) cap) (n + m) (xs ++ cs.toList) ∧
      Kp (fun k => v.ownBlock = some k) w w' ∧ (v.ownBlock = some g ∨ w.heap.size < g) ∧ g < w'.heap.size := by
  have hown' : (w.alloc (.cells cs e)).ownsRow base e size v n xs := hown.alloc _
  obtain ⟨a1, g, cap, a2, h2, h3, h4, h5⟩ := ap_lies (P := P) (w.alloc (.cells cs e)) t base e i z size bytes ht hi hz hsize hby hzs hsz v n xs hown' ⟨w.heap.size, 0, none⟩ m m cs.toList (by simp [hl])
    (World.news_of_block (cs := cs) (t := e) (fr := (0, 0)) (heap_alloc_new w _)) h1 hm h63 hbytes (by simp; omega)
  refine ⟨a1, g, cap, _, a2, rfl, h2, ((Kp.refl _ _).alloc _).trans (Kp.of_grown h3 _ (fun i h => h)), ?_, h5⟩
  rcases h4 with h | h
  · exact .inl h
  · right
    have : (w.alloc (.cells cs e)).heap.size = w.heap.size + 1 := by simp
    omega
/-- A slice of bytes of the call's own. -/
def By (w : World) (base : Nat) (v : Value) (l : List Int) : Prop := w.ownsRow base 5 1 v l.length (u8s l)
theorem By.nil (w : World) (base : Nat) : By w base (.slice none 0 0) [] := World.ownsRow_nil _ _ _ _
theorem By.form {w : World} {base : Nat} {v : Value} {l : List Int} (h : By w base v l) : ∃ A c, v = .slice A l.length c ∧ l.length ≤ c ∧ c ≤ maxLen := by
  obtain ⟨A, c, e, h1, h2, _⟩ := Rd.own h
  exact ⟨A, c, e, h1, h2⟩
theorem By.bs {w : World} {base : Nat} {A : Option Addr} {n c : Nat} {l : List Int} (h : By w base (.slice A n c) l) : Bs w A n l := by
  obtain ⟨h1, ⟨e, e2⟩ | ⟨g, cap, cur, e, hb, hg, h3, h4, h5, h6⟩⟩ := h
  · injection e with e e3
    subst e3
    exact ⟨e2, fun h => absurd h (by omega)⟩
  · injection e with e e3
    subst e e3
    refine ⟨rfl, fun hn => ⟨g, 0, cur, (0, 0), rfl, hg, fun j u hu => ?_⟩⟩
    rw [← h6] at hu
    rw [List.getElem?_take] at hu
    split at hu
    · simpa using hu
    · cases hu
theorem By.kp {S : Nat → Prop} {w w' : World} {base : Nat} {v : Value} {l : List Int} (h : By w base v l) (hk : Kp S w w') (hs : ∀ i, S i → i < base) : By w' base v l :=
  own_kp h hk (fun g hg hS => by have := (h.lt _ hg).1; have := hs _ hS; omega)
theorem By.alloc {w : World} {base : Nat} {v : Value} {l : List Int} (h : By w base v l) (o : Obj) : By (w.alloc o) base v l := World.ownsRow.alloc h o
theorem by_new (w : World) (base : Nat) (v : Value) (l : List Int) (h : By w base v l) (news : List Int) (hm : 0 < news.length) (hn : l.length + news.length ≤ 1000000000) (hbase : base ≤ w.heap.size) :
    apOk Tryd.prog 28 v (.slice (some ⟨w.heap.size, 0, none⟩) news.length news.length) (w.alloc (.cells (u8s news).toArray 5)) = true ∧
    ∃ g cap w', apV Tryd.prog 28 v (.slice (some ⟨w.heap.size, 0, none⟩) news.length news.length) (w.alloc (.cells (u8s news).toArray 5)) = .slice (some ⟨g, 0, none⟩) (l.length + news.length) cap ∧
      apW Tryd.prog 28 v (.slice (some ⟨w.heap.size, 0, none⟩) news.length news.length) (w.alloc (.cells (u8s news).toArray 5)) = w' ∧
      By w' base (.slice (some ⟨g, 0, none⟩) (l.length + news.length) cap) (l ++ news) ∧ Kp (fun k => v.ownBlock = some k) w w' ∧ (v.ownBlock = some g ∨ w.heap.size < g) ∧ g < w'.heap.size := by
  obtain ⟨i0, hi0, hz0, hz1, hz2⟩ := byte_info
  obtain ⟨a1, g, cap, w', a2, a3, a4, a5⟩ := ap_new (P := Tryd.prog) w 28 base 5 i0 _ 1 1 Tryd.underlying28 hi0 hz0 hz1 hz2 (by rfl) (by omega) v l.length (u8s l) h
    (u8s news).toArray news.length hm (by simp [u8s]) (by simp [u8s, Value.oneCell']) (by simp [maxLen]; omega) (by omega) hbase
  refine ⟨a1, g, cap, w', a2, a3, ?_, a5⟩
  unfold By
  have e : u8s (l ++ news) = u8s l ++ u8s news := by simp [u8s]
  rw [e, List.length_append]
  simpa using a4
theorem by_newd (w : World) (base : Nat) (v : Value) (l : List Int) (h : By w base v l) (news : List Int) (hm : 0 < news.length) (hn : l.length + news.length ≤ 1000000000) (hbase : base ≤ w.heap.size) :
    apOk Tryd.prog 28 v (.slice (some ⟨w.heap.size, 0, none⟩) news.length news.length) (w.alloc (.cells (u8s news).toArray 5)).drew = true ∧
    ∃ g cap w', apV Tryd.prog 28 v (.slice (some ⟨w.heap.size, 0, none⟩) news.length news.length) (w.alloc (.cells (u8s news).toArray 5)).drew = .slice (some ⟨g, 0, none⟩) (l.length + news.length) cap ∧
      apW Tryd.prog 28 v (.slice (some ⟨w.heap.size, 0, none⟩) news.length news.length) (w.alloc (.cells (u8s news).toArray 5)).drew = w' ∧
      By w' base (.slice (some ⟨g, 0, none⟩) (l.length + news.length) cap) (l ++ news) ∧ Kp (fun k => v.ownBlock = some k) w w' ∧ (v.ownBlock = some g ∨ w.heap.size < g) ∧ g < w'.heap.size := by
  obtain ⟨a1, g, cap, w', a2, a3, a4, a5, a6⟩ := by_new w.drew base v l h news hm hn hbase
  exact ⟨a1, g, cap, w', a2, a3, a4, Kp.comp ((Kp.refl (fun k => v.ownBlock = some k) w).drew) a5 (fun _ _ h => h.elim id id), a6⟩
theorem or_u8_dec : ∀ a x : Fin 16, bits .or .u8 (((a.val * 16 : Nat) : Int)) (x.val : Int) = ((16 * a.val + x.val : Nat) : Int) := by decide +kernel
theorem or_u8 (a x : Int) (ha : 0 ≤ a) (ha2 : a ≤ 15) (hx : 0 ≤ x) (hx2 : x ≤ 15) : bits .or .u8 (a * 16) x = 16 * a + x := by
  obtain ⟨a, rfl⟩ := Int.eq_ofNat_of_zero_le ha
  obtain ⟨x, rfl⟩ := Int.eq_ofNat_of_zero_le hx
  have h := or_u8_dec ⟨a, by omega⟩ ⟨x, by omega⟩
  simp only [Int.natCast_add, Int.natCast_mul] at h
  exact h
theorem wrap_u8 (x : Int) : IntKind.u8.wrap x = x % 256 := by simp [IntKind.wrap, IntKind.bits, IntKind.signed]

set_option maxHeartbeats 400000 in
attribute [local go_sem ↓] b_append in
theorem two_c (w : World) (base : Nat) (v : Value) (l : List Int) (n : Int) (hn0 : 0 ≤ n) (hn1 : n ≤ 1000000000) (h : By w base v l) (hl : l.length + 2 ≤ 1000000000) (hbase : base ≤ w.heap.size) :
    Calls Tryd.prog 43 #[v, .int .i64 n] w fun e w' => ∃ g cap, e = .returned (.slice (some ⟨g, 0, none⟩) (l.length + 2) cap) ∧ By w' base (.slice (some ⟨g, 0, none⟩) (l.length + 2) cap) (l ++ twoS n) ∧
      Kp (fun k => v.ownBlock = some k) w w' ∧ (v.ownBlock = some g ∨ w.heap.size < g) := by
  obtain ⟨a1, g, cap, w', a2, a3, a4, a5, a6, a7⟩ := by_new w base v l h (twoS n) (by simp [twoS]) (by simpa [twoS] using hl) hbase
  simp [u8s, twoS] at a1 a2 a3
  have HB := Lib.hid a4
  have hw1 := wrap_u8
  clear a4 h
  go_enter Tryd.func43, Tryd.ntmps43
  go_wp2
  go_ret
  exact ⟨g, cap, rfl, by simpa [twoS] using HB.out, a5, a6⟩
end Go.Proofs.YtnpkpikoeijdcaaDoor
