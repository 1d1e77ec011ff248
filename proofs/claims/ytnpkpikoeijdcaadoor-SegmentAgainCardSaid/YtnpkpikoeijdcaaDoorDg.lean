/- Contract: segment.written of a frame, code 192. -/
import Derived.Test.YtnpkpikoeijdcaaDoorDf
set_option linter.unusedVariables false
set_option linter.unusedSimpArgs false
namespace Go.Proofs.YtnpkpikoeijdcaaDoor
open Go Go.RowKit

/-- A one-byte literal that lies in a block of its own. -/
def Lt (x : World) (v : Value) (g : Nat) (n : Int) : Prop := x.cell? ⟨g, 0, none⟩ = some (.int .u8 n) ∧ v.ownBlock ≠ some g
theorem Lt.new (x : World) (base : Nat) (v : Value) (l : List Int) (n : Int) (h : By x base v l) : Lt (x.alloc (.cells #[.int .u8 n] 5)) v x.heap.size n :=
  ⟨by rw [(Blk.new x 5 #[.int .u8 n]).cell]; rfl, fun h2 => by have := (h.lt _ h2).2; omega⟩
theorem cell_lt {x : World} {g i : Nat} {u : Value} (h : x.cell? ⟨g, i, none⟩ = some u) : g < x.heap.size := by
  rcases Nat.lt_or_ge g x.heap.size with h' | h'
  · exact h'
  · simp [World.cell?, Array.getElem?_eq_none h'] at h
theorem Lt.kp {x x' : World} {v v' : Value} {g : Nat} {n : Int} (h : Lt x v g n) (hk : Kp (fun i => v.ownBlock = some i) x x') (ho : ∀ i, v'.ownBlock = some i → v.ownBlock = some i ∨ x.heap.size ≤ i) : Lt x' v' g n :=
  ⟨hk.cell' h.1 h.2, fun h2 => (ho _ h2).elim h.2 (fun h3 => by have := cell_lt h.1; omega)⟩
theorem Lt.alloc {x : World} {v : Value} {g : Nat} {n : Int} (h : Lt x v g n) (o : Obj) : Lt (x.alloc o) v g n := h.kp ((Kp.refl _ _).alloc o) (fun i h => .inl h)
theorem by_lit (w : World) (base : Nat) (v : Value) (l : List Int) (h : By w base v l) (g : Nat) (n : Int) (hl : Lt w v g n) (hn : l.length + 2 ≤ 1000000000) (hbase : base ≤ w.heap.size) :
    apOk Tryd.prog 28 v (.slice (some ⟨g, 0, none⟩) 1 1) w = true ∧
    ∃ v' w', apV Tryd.prog 28 v (.slice (some ⟨g, 0, none⟩) 1 1) w = v' ∧
      apW Tryd.prog 28 v (.slice (some ⟨g, 0, none⟩) 1 1) w = w' ∧
      By w' base v' (l ++ [n]) ∧ Kp (fun k => v.ownBlock = some k) w w' ∧ (∀ i, v'.ownBlock = some i → v.ownBlock = some i ∨ w.heap.size ≤ i) :=
  by_srcv w base v l h g 0 1 1 [n] rfl (fun j u hu => by
    cases j with
    | zero => rw [← show some (Value.int .u8 n) = some u from hu]; exact hl.1
    | succ j => simp [u8s] at hu) (by omega) (by omega) hbase
theorem two_v (w : World) (base : Nat) (v : Value) (l : List Int) (n : Int) (hn0 : 0 ≤ n) (hn1 : n ≤ 1000000000) (h : By w base v l) (hl : l.length + 2 ≤ 1000000000) (hbase : base ≤ w.heap.size) :
    Calls Tryd.prog 43 #[v, .int .i64 n] w fun e w' => ∃ v', e = .returned v' ∧ By w' base v' (l ++ twoS n) ∧
      Kp (fun k => v.ownBlock = some k) w w' ∧ (∀ i, v'.ownBlock = some i → v.ownBlock = some i ∨ w.heap.size ≤ i) :=
  (two_c w base v l n hn0 hn1 h hl hbase).mono fun e w' ⟨g, cap, h1, h2, h3, h4⟩ => ⟨_, h1, h2, h3, fun i hi => by
    have : g = i := by simpa [Value.ownBlock] using hi
    subst this
    exact h4.imp id (fun h => by omega)⟩
theorem fac_mem : ∀ {l : List Cm}, facBad l = false → ∀ c ∈ l, (1 ≤ c.h ∧ c.h ≤ 4) ∧ (1 ≤ c.v ∧ c.v ≤ 4)
  | [], _, c, hc => by cases hc
  | d :: l, h, c, hc => by
    unfold facBad at h
    split at h
    · cases h
    · rcases List.mem_cons.1 hc with rfl | hc
      · omega
      · exact fac_mem h c hc
theorem framedS_ok {f : Fr} (h : framedS f = 0) : (1 ≤ f.width ∧ f.width ≤ 65535) ∧ (1 ≤ f.height ∧ f.height ≤ 65535) ∧ (1 ≤ f.comps.length ∧ f.comps.length ≤ 4) ∧ facBad f.comps = false := by
  unfold framedS at h
  split at h
  · omega
  split at h
  · rename_i h1 h2
    unfold gcheck at h2
    split at h2
    · omega
    split at h2
    · omega
    split at h2
    · omega
    split at h2
    · omega
    rename_i a b c d
    refine ⟨by omega, by omega, by omega, by simpa using d⟩
  split at h
  · omega
  · omega
def wrCs (l : List Cm) : List Int := l.flatMap wrComp
theorem wrCs_succ (l : List Cm) (k : Nat) (h : k < l.length) : wrCs (l.take (k + 1)) = wrCs (l.take k) ++ wrComp (l.getD k default) := by
  rw [List.take_succ_eq_append_getElem h]
  have : l.getD k default = l[k] := by simp [h]
  rw [this, wrCs, List.flatMap_append]
  simp [wrCs]
theorem wrCs_len (l : List Cm) : (wrCs l).length = 3 * l.length := by
  induction l with
  | nil => rfl
  | cons c l ih =>
    have e : wrCs (c :: l) = wrComp c ++ wrCs l := rfl
    rw [e, List.length_append, ih, List.length_cons]
    simp [wrComp]; omega

theorem by_newq (w : World) (base : Nat) (v : Value) (l : List Int) (h : By w base v l) (news : List Int) (hm : 0 < news.length) (hn : l.length + news.length ≤ 1000000000) (hbase : base ≤ w.heap.size) :
    apOk Tryd.prog 28 v (.slice (some ⟨w.heap.size, 0, none⟩) news.length news.length) (w.alloc (.cells (u8s news).toArray 5)) = true ∧
    ∃ v' w', apV Tryd.prog 28 v (.slice (some ⟨w.heap.size, 0, none⟩) news.length news.length) (w.alloc (.cells (u8s news).toArray 5)) = v' ∧
      apW Tryd.prog 28 v (.slice (some ⟨w.heap.size, 0, none⟩) news.length news.length) (w.alloc (.cells (u8s news).toArray 5)) = w' ∧
      By w' base v' (l ++ news) ∧ Kp (fun k => v.ownBlock = some k) w w' ∧ (∀ i, v'.ownBlock = some i → v.ownBlock = some i ∨ w.heap.size ≤ i) := by
  obtain ⟨a1, g, cap, w', a2, a3, a4, a5, a6, a7⟩ := by_new w base v l h news hm hn hbase
  exact ⟨a1, _, _, a2, a3, a4, a5, fun i hi => by
    have : g = i := by simpa [Value.ownBlock] using hi
    subst this
    exact a6.imp id (fun h => by omega)⟩

set_option maxHeartbeats 4000000 in
set_option maxRecDepth 100000 in
attribute [local go_sem ↓] b_append in
theorem written_192 (w : World) (B : Nat) (a ed rs : Int) (qv hv pv iv : Value) (ds : ByteArray) (f : Fr) (fA : Option Addr) (fc : Nat)
    (hrd : Rd w B 4 fA f.comps.length (cmsCells f.comps)) (hB : B ≤ w.heap.size) (hql : f.comps.length ≤ fc) (hqm : fc ≤ maxLen) (ho : ∀ q ∈ f.comps, CmOk q) :
    Calls Tryd.prog 42 #[.agg #[.int .u8 192, .int .i64 a, .int .i64 ed, qv, hv, .int .u8 f.kind, .int .i64 f.width, .int .i64 f.height, .slice fA f.comps.length fc, pv, iv, .int .i64 rs, .string ds]] w fun e w' =>
      WrPost w (wrFrame f) e w' := by
  have hfc := fun w0 (h : Rd w0 B 4 fA f.comps.length (cmsCells f.comps)) (h4 : B ≤ w0.heap.size) => framed_c w0 B f fA fc h (by omega) hql ho h4
  unfold frVal at hfc
  obtain ⟨R, hR⟩ : ∃ R, R = wrFrame f := ⟨_, rfl⟩
  have HR := Lib.hid hR
  rw [← hR]
  have hok := fun h => framedS_ok (f := f) h
  obtain ⟨res, hres⟩ : ∃ r, r = framedS f := ⟨_, rfl⟩
  have HRES := Lib.hid hres
  rw [← hres] at hfc hok
  obtain ⟨kd, wd, ht, cms⟩ := f
  simp only at hrd hql ho hfc hok ⊢
  obtain ⟨n, hn⟩ : ∃ n, n = cms.length := ⟨_, rfl⟩
  have HN := Lib.hid hn
  rw [← hn] at hfc hql hrd hok ⊢
  have HFC := Lib.hid hfc
  have HOK := Lib.hid hok
  have HRD := Lib.hid hrd
  have HO := Lib.hid ho
  unfold maxLen at hqm
  obtain ⟨w1, hw1⟩ : ∃ w1, w1 = w.alloc (.cells #[.int .u8 192, .int .i64 a, .int .i64 ed, qv, hv, .int .u8 kd, .int .i64 wd, .int .i64 ht, .slice fA n fc, pv, iv, .int .i64 rs, .string ds] 30) := ⟨_, rfl⟩
  obtain ⟨w2, hw2⟩ : ∃ w2, w2 = w1.alloc (.cells #[.int .u8 kd, .int .i64 wd, .int .i64 ht, .slice fA n fc] 26) := ⟨_, rfl⟩
  have hs1 : w1.heap.size = w.heap.size + 1 := by rw [hw1]; simp
  have hb2 : Blk w2 (w.heap.size + 1) 26 #[.int .u8 kd, .int .i64 wd, .int .i64 ht, .slice fA n fc] := by rw [hw2, ← hs1]; exact Blk.new _ _ _
  have hk2 : Kp Nn w w2 := by rw [hw2, hw1]; exact ((Kp.refl _ _).alloc _).alloc _
  have hs2 : w2.heap.size = w.heap.size + 2 := by rw [hw2]; simp [hs1]
  have hr2 : Rd w2 B 4 fA n (cmsCells cms) := HRD.out.kp hk2 hB (fun i _ h => h)
  have hcl := HFC.out w2 hr2 (by omega)
  have HCL := Lib.hid hcl
  have HB2 := Lib.hid hb2
  have HWW : Hid (w2 = (w.alloc (.cells #[.int .u8 192, .int .i64 a, .int .i64 ed, qv, hv, .int .u8 kd, .int .i64 wd, .int .i64 ht, .slice fA n fc, pv, iv, .int .i64 rs, .string ds] 30)).alloc (.cells #[.int .u8 kd, .int .i64 wd, .int .i64 ht, .slice fA n fc] 26)) := by rw [hw2, hw1]; exact Lib.hid rfl
  clear hfc hok hrd ho hw1 hw2 hb2 hcl hR hres hn hr2 hs1
  go_enter Tryd.func42, Tryd.ntmps42
  go_wp2_with fail
  rw [← HWW.out]
  refine HCL.out.mono ?_
  rintro e w5 ⟨rfl, hk5⟩
  have hkw5 : Kp Nn w w5 := hk2.trans hk5
  have hb5 := HB2.out.kp hk5 (fun h => h)
  have hs5 : w.heap.size + 2 ≤ w5.heap.size := by have := hk5.size; omega
  clear HCL HWW hk2 hk5 hs2
  by_cases hf0 : res = 0
  case neg =>
    have hbb : (res != 0) = true := by simpa using hf0
    have HE2 : Hid (R = .error res) := by rw [HR.out, wrFrame, if_pos (by rw [← HRES.out]; exact hf0), ← HRES.out]; exact Lib.hid rfl
    clear hf0
    go_wp2
    go_ret2
    rw [HE2.out]
    exact ⟨rfl, hkw5⟩
  have hbb : (res != 0) = false := by simpa using hf0
  obtain ⟨⟨hw0, hw1⟩, ⟨hh0, hh1⟩, ⟨hn0, hn1⟩, hfb⟩ := HOK.out hf0
  replace hw0 : 0 ≤ wd := by omega
  replace hw1 : wd ≤ 1000000000 := by omega
  replace hh0 : 0 ≤ ht := by omega
  replace hh1 : ht ≤ 1000000000 := by omega
  have HFB := Lib.hid hfb
  have hmu : IntKind.u8.wrap (n : Int) = (n : Int) := by rw [wrap_u8]; omega
  have HE : Hid (R = .ok (8 :: (twoS ht ++ twoS wd ++ (n : Int) :: wrCs cms))) := by
    rw [HR.out, wrFrame, if_neg (by rw [← HRES.out]; simpa using hf0), HN.out]; exact Lib.hid rfl
  have c1 : w5.cell? ⟨w.heap.size + 1, 1, none⟩ = some (.int .i64 wd) := by rw [hb5.cell]; rfl
  have c2 : w5.cell? ⟨w.heap.size + 1, 2, none⟩ = some (.int .i64 ht) := by rw [hb5.cell]; rfl
  have c3 : w5.cell? ⟨w.heap.size + 1, 3, none⟩ = some (.slice fA n fc) := by rw [hb5.cell]; rfl
  clear hf0 hfb hb5
  go_wp2_with fail
  refine wp_region_fork (fun w' => Kp Nn w5 w') 15 [0, 3, 4, 6, 7, 9, 10, 11, 12] 7 (fun l => (l.take 1) ++ (((l.drop 3).take 2) ++ (((l.drop 6).take 2) ++ ((l.drop 9).take 4)))) (by kernel_rfl) (by kernel_rfl) (by kernel_rfl) ((Kp.refl _ _).drew) ?_
  simp only [List.take_succ_cons, List.take_zero, List.drop_succ_cons, List.drop_zero, List.cons_append, List.nil_append]
  intro hsn hsx N hN
  have fx0 := fun x => (hsx x).cell' c1 (fun h => h)
  have fx1 := fun x => (hsx x).cell' c2 (fun h => h)
  have fx2 := fun x => (hsx x).cell' c3 (fun h => h)
  clear hsx
  repeat (go_big_quiet_step (fail))
  refine wpQuiet_nil (hN _ ?_)
  clear hN N hsn fx0 fx1 fx2
  obtain ⟨w6, hw6⟩ : ∃ y, y = w5.drew := ⟨_, rfl⟩
  have k0 : Kp Nn w5 w6 := by rw [hw6]; exact (Kp.refl _ _).drew
  have b0 : By w6 w5.heap.size (.slice none 0 0) [] := By.nil _ _
  clear c1 c2
  rw [← hw6]
  clear hw6
  refine wpAnyT_two 1 13 (by kernel_rfl) rfl rfl rfl rfl ?_ ?_
  · skip
    intro N hN
    go_wp2
    obtain ⟨x1, hx⟩ : ∃ y, y = World.alloc w6 (.cells #[.int .u8 8] 5) := ⟨_, rfl⟩
    have k2 : Kp Nn w5 x1 := by rw [hx]; exact k0.alloc _
    have b3 := b0.alloc (.cells #[.int .u8 8] 5)
    have t4 := Lt.new w6 _ _ _ 8 b0
    rw [← hx] at b3 t4 ⊢
    refine hN _ _ (fun _ => k2) ?_
    clear hN N hx
    refine wpAnyT_two 2 13 (by kernel_rfl) rfl rfl rfl rfl ?_ ?_
    · skip
      obtain ⟨ap1, v6, x5, ap2, ap3, b8, kk10, o9⟩ := by_lit x1 _ _ _ b3 _ 8 t4 (by simp [twoS]) (by have := k2.size; omega)
      have k7 : Kp Nn w5 x5 := Kp.comp k2 kk10 (fun i hi h => h.elim id (fun h => by have := (b3.lt _ h).1; omega))
      intro N hN
      go_wp2
      refine hN _ _ (fun _ => k7) ?_
      clear hN N ap1 ap2 ap3 o9 kk10
      refine wpAnyT_two 5 13 (by kernel_rfl) rfl rfl rfl rfl ?_ ?_
      · skip
        intro N hN
        go_wp2_with fail
        refine (two_v x5 _ _ _ ht hh0 hh1 b8 (by simp [twoS]) (by have := k7.size; omega)).mono ?_
        rintro e x11 ⟨v12, rfl, b14, kk16, o15⟩
        have k13 : Kp Nn w5 x11 := Kp.comp k7 kk16 (fun i hi h => h.elim id (fun h => by have := (b8.lt _ h).1; omega))
        go_wp2
        refine hN _ _ (fun _ => k13) ?_
        clear hN N o15 kk16
        refine wpAnyT_two 8 13 (by kernel_rfl) rfl rfl rfl rfl ?_ ?_
        · skip
          intro N hN
          go_wp2_with fail
          refine (two_v x11 _ _ _ wd hw0 hw1 b14 (by simp [twoS]) (by have := k13.size; omega)).mono ?_
          rintro e x17 ⟨v18, rfl, b20, kk22, o21⟩
          have k19 : Kp Nn w5 x17 := Kp.comp k13 kk22 (fun i hi h => h.elim id (fun h => by have := (b14.lt _ h).1; omega))
          go_wp2
          refine hN _ _ (fun _ => k19) ?_
          clear hN N o21 kk22
          refine wpAnyT_one 13 (by kernel_rfl) rfl rfl ?_
          intro N hN
          go_wp2
          obtain ⟨x23, hx⟩ : ∃ y, y = World.alloc x17 (.cells #[.int .u8 n] 5) := ⟨_, rfl⟩
          have k24 : Kp Nn w5 x23 := by rw [hx]; exact k19.alloc _
          have b25 := b20.alloc (.cells #[.int .u8 n] 5)
          have t26 := Lt.new x17 _ _ _ n b20
          rw [← hx] at b25 t26 ⊢
          refine hN _ _ (fun _ => k24) ?_
          clear hN N hx
          refine wpAnyT_one 14 (by kernel_rfl) rfl rfl ?_
          obtain ⟨ap1, v28, x27, ap2, ap3, b30, kk32, o31⟩ := by_lit x23 _ _ _ b25 _ (n : Int) t26 (by simp [twoS]) (by have := k24.size; omega)
          have k29 : Kp Nn w5 x27 := Kp.comp k24 kk32 (fun i hi h => h.elim id (fun h => by have := (b25.lt _ h).1; omega))
          intro N hN
          go_wp2
          refine hN _ _ (fun _ => k29) ?_
          clear hN N ap1 ap2 ap3 o31 kk32
          refine wpAnyT_one 15 (by kernel_rfl) rfl rfl ?_
          intro N hN
          go_wp2
          refine hN _ _ (fun h => absurd rfl h) (wpAnyT_end (by kernel_rfl) ?_)
          clear hN N
          have HY := Lib.hid b30
          have HK := Lib.hid k29
          have c3' := k29.cell' c3 (fun h => h)
          have hsz5 := k29.size
          clear b30 k29
          obtain ⟨w7, rfl⟩ : ∃ y : World, y = x27 := ⟨_, rfl⟩
          go_wp2
          clear c3'
          go_loopw [4, 148] (fun v i wr => ∃ (k : Nat), k ≤ n ∧ i = .int .i64 k ∧ By wr w5.heap.size v (8 :: (twoS ht ++ twoS wd ++ (n : Int) :: wrCs (cms.take k))) ∧ Kp Nn w5 wr) (fun _ i _ => n - (intOf i).toNat)
          case atStart => exact ⟨0, by omega, rfl, by have h := HY.out; simpa [wrCs] using h, HK.out⟩
          case round =>
            clear HY HK hsz5
            obtain ⟨k, hk, rfl, hby, hkp⟩ := hrel
            obtain ⟨wo, rfl⟩ : ∃ wo : World, wo = wr := ⟨_, rfl⟩
            have HYR := Lib.hid hby
            have hsz := hkp.size
            by_cases hlt : k < n
            · have hkl : k < cms.length := by rw [← HN.out]; exact hlt
              obtain ⟨b, off, rfl, hb, hc⟩ := HRD.out.at_ (by omega)
              obtain ⟨p0, p1, p2, p3⟩ := cms_read hc k hkl
              have hkw : Kp Nn w wo := hkw5.trans hkp
              have d0 := hkw.cell' p0 (fun h => h)
              have d1 := hkw.cell' p1 (fun h => h)
              have d2 := hkw.cell' p2 (fun h => h)
              have d3 := hkw.cell' p3 (fun h => h)
              have hpk := HO.out _ (mem_getD cms k hkl)
              have hfk := fac_mem HFB.out _ (mem_getD cms k hkl)
              obtain ⟨p, hp⟩ : ∃ p, p = cms.getD k default := ⟨_, rfl⟩
              rw [← hp] at d0 d1 d2 d3 hpk hfk
              obtain ⟨pi, ph, pw, pq⟩ := p
              obtain ⟨⟨r1, r2⟩, ⟨r3, r4⟩, ⟨r5, r6⟩, ⟨r7, r8⟩⟩ := hpk
              obtain ⟨⟨f1, f2⟩, f3, f4⟩ := hfk
              simp only at d0 d1 d2 d3 r1 r2 r3 r4 r5 r6 r7 r8 f1 f2 f3 f4
              have HP := Lib.hid hp
              clear hc p0 p1 p2 p3 hp hby
              obtain ⟨z, hz, o1⟩ : ∃ z, z = 16 * ph + pw ∧ bits .or .u8 (ph * 16) pw = z := ⟨_, rfl, or_u8 _ _ (by omega) (by omega) (by omega) (by omega)⟩
              have HZ := Lib.hid hz
              clear hz hmu hbb
              obtain ⟨w3, hw3⟩ : ∃ w3, w3 = wo.alloc (.cells #[.int .u8 pi, .int .u8 ph, .int .u8 pw, .int .u8 pq] 121) := ⟨_, rfl⟩
              have hy3 := HYR.out.alloc (.cells #[.int .u8 pi, .int .u8 ph, .int .u8 pw, .int .u8 pq] 121)
              rw [← hw3] at hy3
              have hk3 : Kp Nn w5 w3 := by rw [hw3]; exact hkp.alloc _
              have hlen := wrCs_len (cms.take k)
              have hlen2 : (cms.take k).length ≤ 4 := by simp; omega
              have hsz3 := hk3.size
              obtain ⟨ap1, v4, w4, ap2, ap3, hby4, hk4, hat⟩ := by_newq w3 w5.heap.size _ _ hy3 [pi, z, pq] (by simp) (by simp [twoS]; omega) (by omega)
              rw [hw3] at ap1 ap2 ap3
              simp [u8s] at ap1 ap2 ap3
              have HY4 := Lib.hid hby4
              have hkp4 : Kp Nn w5 w4 := Kp.comp hk3 hk4 (by
                intro i hi h
                rcases h with h | h
                · exact h
                · have := (hy3.lt _ h).1; omega)
              clear hy3 hby4 hlen hlen2 hat hw3 hk3 hk4 hsz3
              go_wp2
              go_roundw
              case rel =>
                refine ⟨k + 1, by omega, by go_num, ?_, hkp4⟩
                rw [wrCs_succ cms k hkl, ← HP.out, wrComp, ← HZ.out]
                have h := HY4.out
                simpa using h
              case measure => simp [intOf]; omega
            · have hkm : k = n := by omega
              subst hkm
              have hy2 := HYR.out
              rw [List.take_of_length_le (by have := HN.out; omega)] at hy2
              have HY2 := Lib.hid hy2
              clear hy2 hlt hby
              go_wp2
              go_ret2
              rw [HE.out]
              exact WrPost.by_ HY2.out (hkw5.trans hkp)
        · skip
          intro N hN
          go_wp2
          obtain ⟨x33, hx⟩ : ∃ y, y = World.alloc x11 (.cells #[.int .u8 n] 5) := ⟨_, rfl⟩
          have k34 : Kp Nn w5 x33 := by rw [hx]; exact k13.alloc _
          have b35 := b14.alloc (.cells #[.int .u8 n] 5)
          have t36 := Lt.new x11 _ _ _ n b14
          rw [← hx] at b35 t36 ⊢
          refine hN _ _ (fun _ => k34) ?_
          clear hN N hx
          refine wpAnyT_one 8 (by kernel_rfl) rfl rfl ?_
          intro N hN
          go_wp2_with fail
          refine (two_v x33 _ _ _ wd hw0 hw1 b35 (by simp [twoS]) (by have := k34.size; omega)).mono ?_
          rintro e x37 ⟨v38, rfl, b40, kk42, o41⟩
          have k39 : Kp Nn w5 x37 := Kp.comp k34 kk42 (fun i hi h => h.elim id (fun h => by have := (b35.lt _ h).1; omega))
          have t43 := t36.kp kk42 o41
          go_wp2
          refine hN _ _ (fun _ => k39) ?_
          clear hN N o41 kk42
          refine wpAnyT_one 14 (by kernel_rfl) rfl rfl ?_
          obtain ⟨ap1, v45, x44, ap2, ap3, b47, kk49, o48⟩ := by_lit x37 _ _ _ b40 _ (n : Int) t43 (by simp [twoS]) (by have := k39.size; omega)
          have k46 : Kp Nn w5 x44 := Kp.comp k39 kk49 (fun i hi h => h.elim id (fun h => by have := (b40.lt _ h).1; omega))
          intro N hN
          go_wp2
          refine hN _ _ (fun _ => k46) ?_
          clear hN N ap1 ap2 ap3 o48 kk49
          refine wpAnyT_one 15 (by kernel_rfl) rfl rfl ?_
          intro N hN
          go_wp2
          refine hN _ _ (fun h => absurd rfl h) (wpAnyT_end (by kernel_rfl) ?_)
          clear hN N
          have HY := Lib.hid b47
          have HK := Lib.hid k46
          have c3' := k46.cell' c3 (fun h => h)
          have hsz5 := k46.size
          clear b47 k46
          obtain ⟨w7, rfl⟩ : ∃ y : World, y = x44 := ⟨_, rfl⟩
          go_wp2
          clear c3'
          go_loopw [4, 148] (fun v i wr => ∃ (k : Nat), k ≤ n ∧ i = .int .i64 k ∧ By wr w5.heap.size v (8 :: (twoS ht ++ twoS wd ++ (n : Int) :: wrCs (cms.take k))) ∧ Kp Nn w5 wr) (fun _ i _ => n - (intOf i).toNat)
          case atStart => exact ⟨0, by omega, rfl, by have h := HY.out; simpa [wrCs] using h, HK.out⟩
          case round =>
            clear HY HK hsz5
            obtain ⟨k, hk, rfl, hby, hkp⟩ := hrel
            obtain ⟨wo, rfl⟩ : ∃ wo : World, wo = wr := ⟨_, rfl⟩
            have HYR := Lib.hid hby
            have hsz := hkp.size
            by_cases hlt : k < n
            · have hkl : k < cms.length := by rw [← HN.out]; exact hlt
              obtain ⟨b, off, rfl, hb, hc⟩ := HRD.out.at_ (by omega)
              obtain ⟨p0, p1, p2, p3⟩ := cms_read hc k hkl
              have hkw : Kp Nn w wo := hkw5.trans hkp
              have d0 := hkw.cell' p0 (fun h => h)
              have d1 := hkw.cell' p1 (fun h => h)
              have d2 := hkw.cell' p2 (fun h => h)
              have d3 := hkw.cell' p3 (fun h => h)
              have hpk := HO.out _ (mem_getD cms k hkl)
              have hfk := fac_mem HFB.out _ (mem_getD cms k hkl)
              obtain ⟨p, hp⟩ : ∃ p, p = cms.getD k default := ⟨_, rfl⟩
              rw [← hp] at d0 d1 d2 d3 hpk hfk
              obtain ⟨pi, ph, pw, pq⟩ := p
              obtain ⟨⟨r1, r2⟩, ⟨r3, r4⟩, ⟨r5, r6⟩, ⟨r7, r8⟩⟩ := hpk
              obtain ⟨⟨f1, f2⟩, f3, f4⟩ := hfk
              simp only at d0 d1 d2 d3 r1 r2 r3 r4 r5 r6 r7 r8 f1 f2 f3 f4
              have HP := Lib.hid hp
              clear hc p0 p1 p2 p3 hp hby
              obtain ⟨z, hz, o1⟩ : ∃ z, z = 16 * ph + pw ∧ bits .or .u8 (ph * 16) pw = z := ⟨_, rfl, or_u8 _ _ (by omega) (by omega) (by omega) (by omega)⟩
              have HZ := Lib.hid hz
              clear hz hmu hbb
              obtain ⟨w3, hw3⟩ : ∃ w3, w3 = wo.alloc (.cells #[.int .u8 pi, .int .u8 ph, .int .u8 pw, .int .u8 pq] 121) := ⟨_, rfl⟩
              have hy3 := HYR.out.alloc (.cells #[.int .u8 pi, .int .u8 ph, .int .u8 pw, .int .u8 pq] 121)
              rw [← hw3] at hy3
              have hk3 : Kp Nn w5 w3 := by rw [hw3]; exact hkp.alloc _
              have hlen := wrCs_len (cms.take k)
              have hlen2 : (cms.take k).length ≤ 4 := by simp; omega
              have hsz3 := hk3.size
              obtain ⟨ap1, v4, w4, ap2, ap3, hby4, hk4, hat⟩ := by_newq w3 w5.heap.size _ _ hy3 [pi, z, pq] (by simp) (by simp [twoS]; omega) (by omega)
              rw [hw3] at ap1 ap2 ap3
              simp [u8s] at ap1 ap2 ap3
              have HY4 := Lib.hid hby4
              have hkp4 : Kp Nn w5 w4 := Kp.comp hk3 hk4 (by
                intro i hi h
                rcases h with h | h
                · exact h
                · have := (hy3.lt _ h).1; omega)
              clear hy3 hby4 hlen hlen2 hat hw3 hk3 hk4 hsz3
              go_wp2
              go_roundw
              case rel =>
                refine ⟨k + 1, by omega, by go_num, ?_, hkp4⟩
                rw [wrCs_succ cms k hkl, ← HP.out, wrComp, ← HZ.out]
                have h := HY4.out
                simpa using h
              case measure => simp [intOf]; omega
            · have hkm : k = n := by omega
              subst hkm
              have hy2 := HYR.out
              rw [List.take_of_length_le (by have := HN.out; omega)] at hy2
              have HY2 := Lib.hid hy2
              clear hy2 hlt hby
              go_wp2
              go_ret2
              rw [HE.out]
              exact WrPost.by_ HY2.out (hkw5.trans hkp)
      · skip
        intro N hN
        go_wp2
        obtain ⟨x50, hx⟩ : ∃ y, y = World.alloc x5 (.cells #[.int .u8 n] 5) := ⟨_, rfl⟩
        have k51 : Kp Nn w5 x50 := by rw [hx]; exact k7.alloc _
        have b52 := b8.alloc (.cells #[.int .u8 n] 5)
        have t53 := Lt.new x5 _ _ _ n b8
        rw [← hx] at b52 t53 ⊢
        refine hN _ _ (fun _ => k51) ?_
        clear hN N hx
        refine wpAnyT_one 5 (by kernel_rfl) rfl rfl ?_
        intro N hN
        go_wp2_with fail
        refine (two_v x50 _ _ _ ht hh0 hh1 b52 (by simp [twoS]) (by have := k51.size; omega)).mono ?_
        rintro e x54 ⟨v55, rfl, b57, kk59, o58⟩
        have k56 : Kp Nn w5 x54 := Kp.comp k51 kk59 (fun i hi h => h.elim id (fun h => by have := (b52.lt _ h).1; omega))
        have t60 := t53.kp kk59 o58
        go_wp2
        refine hN _ _ (fun _ => k56) ?_
        clear hN N o58 kk59
        refine wpAnyT_one 8 (by kernel_rfl) rfl rfl ?_
        intro N hN
        go_wp2_with fail
        refine (two_v x54 _ _ _ wd hw0 hw1 b57 (by simp [twoS]) (by have := k56.size; omega)).mono ?_
        rintro e x61 ⟨v62, rfl, b64, kk66, o65⟩
        have k63 : Kp Nn w5 x61 := Kp.comp k56 kk66 (fun i hi h => h.elim id (fun h => by have := (b57.lt _ h).1; omega))
        have t67 := t60.kp kk66 o65
        go_wp2
        refine hN _ _ (fun _ => k63) ?_
        clear hN N o65 kk66
        refine wpAnyT_one 14 (by kernel_rfl) rfl rfl ?_
        obtain ⟨ap1, v69, x68, ap2, ap3, b71, kk73, o72⟩ := by_lit x61 _ _ _ b64 _ (n : Int) t67 (by simp [twoS]) (by have := k63.size; omega)
        have k70 : Kp Nn w5 x68 := Kp.comp k63 kk73 (fun i hi h => h.elim id (fun h => by have := (b64.lt _ h).1; omega))
        intro N hN
        go_wp2
        refine hN _ _ (fun _ => k70) ?_
        clear hN N ap1 ap2 ap3 o72 kk73
        refine wpAnyT_one 15 (by kernel_rfl) rfl rfl ?_
        intro N hN
        go_wp2
        refine hN _ _ (fun h => absurd rfl h) (wpAnyT_end (by kernel_rfl) ?_)
        clear hN N
        have HY := Lib.hid b71
        have HK := Lib.hid k70
        have c3' := k70.cell' c3 (fun h => h)
        have hsz5 := k70.size
        clear b71 k70
        obtain ⟨w7, rfl⟩ : ∃ y : World, y = x68 := ⟨_, rfl⟩
        go_wp2
        clear c3'
        go_loopw [4, 148] (fun v i wr => ∃ (k : Nat), k ≤ n ∧ i = .int .i64 k ∧ By wr w5.heap.size v (8 :: (twoS ht ++ twoS wd ++ (n : Int) :: wrCs (cms.take k))) ∧ Kp Nn w5 wr) (fun _ i _ => n - (intOf i).toNat)
        case atStart => exact ⟨0, by omega, rfl, by have h := HY.out; simpa [wrCs] using h, HK.out⟩
        case round =>
          clear HY HK hsz5
          obtain ⟨k, hk, rfl, hby, hkp⟩ := hrel
          obtain ⟨wo, rfl⟩ : ∃ wo : World, wo = wr := ⟨_, rfl⟩
          have HYR := Lib.hid hby
          have hsz := hkp.size
          by_cases hlt : k < n
          · have hkl : k < cms.length := by rw [← HN.out]; exact hlt
            obtain ⟨b, off, rfl, hb, hc⟩ := HRD.out.at_ (by omega)
            obtain ⟨p0, p1, p2, p3⟩ := cms_read hc k hkl
            have hkw : Kp Nn w wo := hkw5.trans hkp
            have d0 := hkw.cell' p0 (fun h => h)
            have d1 := hkw.cell' p1 (fun h => h)
            have d2 := hkw.cell' p2 (fun h => h)
            have d3 := hkw.cell' p3 (fun h => h)
            have hpk := HO.out _ (mem_getD cms k hkl)
            have hfk := fac_mem HFB.out _ (mem_getD cms k hkl)
            obtain ⟨p, hp⟩ : ∃ p, p = cms.getD k default := ⟨_, rfl⟩
            rw [← hp] at d0 d1 d2 d3 hpk hfk
            obtain ⟨pi, ph, pw, pq⟩ := p
            obtain ⟨⟨r1, r2⟩, ⟨r3, r4⟩, ⟨r5, r6⟩, ⟨r7, r8⟩⟩ := hpk
            obtain ⟨⟨f1, f2⟩, f3, f4⟩ := hfk
            simp only at d0 d1 d2 d3 r1 r2 r3 r4 r5 r6 r7 r8 f1 f2 f3 f4
            have HP := Lib.hid hp
            clear hc p0 p1 p2 p3 hp hby
            obtain ⟨z, hz, o1⟩ : ∃ z, z = 16 * ph + pw ∧ bits .or .u8 (ph * 16) pw = z := ⟨_, rfl, or_u8 _ _ (by omega) (by omega) (by omega) (by omega)⟩
            have HZ := Lib.hid hz
            clear hz hmu hbb
            obtain ⟨w3, hw3⟩ : ∃ w3, w3 = wo.alloc (.cells #[.int .u8 pi, .int .u8 ph, .int .u8 pw, .int .u8 pq] 121) := ⟨_, rfl⟩
            have hy3 := HYR.out.alloc (.cells #[.int .u8 pi, .int .u8 ph, .int .u8 pw, .int .u8 pq] 121)
            rw [← hw3] at hy3
            have hk3 : Kp Nn w5 w3 := by rw [hw3]; exact hkp.alloc _
            have hlen := wrCs_len (cms.take k)
            have hlen2 : (cms.take k).length ≤ 4 := by simp; omega
            have hsz3 := hk3.size
            obtain ⟨ap1, v4, w4, ap2, ap3, hby4, hk4, hat⟩ := by_newq w3 w5.heap.size _ _ hy3 [pi, z, pq] (by simp) (by simp [twoS]; omega) (by omega)
            rw [hw3] at ap1 ap2 ap3
            simp [u8s] at ap1 ap2 ap3
            have HY4 := Lib.hid hby4
            have hkp4 : Kp Nn w5 w4 := Kp.comp hk3 hk4 (by
              intro i hi h
              rcases h with h | h
              · exact h
              · have := (hy3.lt _ h).1; omega)
            clear hy3 hby4 hlen hlen2 hat hw3 hk3 hk4 hsz3
            go_wp2
            go_roundw
            case rel =>
              refine ⟨k + 1, by omega, by go_num, ?_, hkp4⟩
              rw [wrCs_succ cms k hkl, ← HP.out, wrComp, ← HZ.out]
              have h := HY4.out
              simpa using h
            case measure => simp [intOf]; omega
          · have hkm : k = n := by omega
            subst hkm
            have hy2 := HYR.out
            rw [List.take_of_length_le (by have := HN.out; omega)] at hy2
            have HY2 := Lib.hid hy2
            clear hy2 hlt hby
            go_wp2
            go_ret2
            rw [HE.out]
            exact WrPost.by_ HY2.out (hkw5.trans hkp)
    · skip
      intro N hN
      go_wp2
      obtain ⟨x74, hx⟩ : ∃ y, y = World.alloc x1 (.cells #[.int .u8 n] 5) := ⟨_, rfl⟩
      have k75 : Kp Nn w5 x74 := by rw [hx]; exact k2.alloc _
      have b76 := b3.alloc (.cells #[.int .u8 n] 5)
      have t77 := Lt.new x1 _ _ _ n b3
      have t78 := t4.alloc (.cells #[.int .u8 n] 5)
      rw [← hx] at t78
      rw [← hx] at b76 t77 ⊢
      refine hN _ _ (fun _ => k75) ?_
      clear hN N hx
      refine wpAnyT_one 2 (by kernel_rfl) rfl rfl ?_
      obtain ⟨ap1, v80, x79, ap2, ap3, b82, kk84, o83⟩ := by_lit x74 _ _ _ b76 _ 8 t78 (by simp [twoS]) (by have := k75.size; omega)
      have k81 : Kp Nn w5 x79 := Kp.comp k75 kk84 (fun i hi h => h.elim id (fun h => by have := (b76.lt _ h).1; omega))
      have t85 := t77.kp kk84 o83
      intro N hN
      go_wp2
      refine hN _ _ (fun _ => k81) ?_
      clear hN N ap1 ap2 ap3 o83 kk84
      refine wpAnyT_one 5 (by kernel_rfl) rfl rfl ?_
      intro N hN
      go_wp2_with fail
      refine (two_v x79 _ _ _ ht hh0 hh1 b82 (by simp [twoS]) (by have := k81.size; omega)).mono ?_
      rintro e x86 ⟨v87, rfl, b89, kk91, o90⟩
      have k88 : Kp Nn w5 x86 := Kp.comp k81 kk91 (fun i hi h => h.elim id (fun h => by have := (b82.lt _ h).1; omega))
      have t92 := t85.kp kk91 o90
      go_wp2
      refine hN _ _ (fun _ => k88) ?_
      clear hN N o90 kk91
      refine wpAnyT_one 8 (by kernel_rfl) rfl rfl ?_
      intro N hN
      go_wp2_with fail
      refine (two_v x86 _ _ _ wd hw0 hw1 b89 (by simp [twoS]) (by have := k88.size; omega)).mono ?_
      rintro e x93 ⟨v94, rfl, b96, kk98, o97⟩
      have k95 : Kp Nn w5 x93 := Kp.comp k88 kk98 (fun i hi h => h.elim id (fun h => by have := (b89.lt _ h).1; omega))
      have t99 := t92.kp kk98 o97
      go_wp2
      refine hN _ _ (fun _ => k95) ?_
      clear hN N o97 kk98
      refine wpAnyT_one 14 (by kernel_rfl) rfl rfl ?_
      obtain ⟨ap1, v101, x100, ap2, ap3, b103, kk105, o104⟩ := by_lit x93 _ _ _ b96 _ (n : Int) t99 (by simp [twoS]) (by have := k95.size; omega)
      have k102 : Kp Nn w5 x100 := Kp.comp k95 kk105 (fun i hi h => h.elim id (fun h => by have := (b96.lt _ h).1; omega))
      intro N hN
      go_wp2
      refine hN _ _ (fun _ => k102) ?_
      clear hN N ap1 ap2 ap3 o104 kk105
      refine wpAnyT_one 15 (by kernel_rfl) rfl rfl ?_
      intro N hN
      go_wp2
      refine hN _ _ (fun h => absurd rfl h) (wpAnyT_end (by kernel_rfl) ?_)
      clear hN N
      have HY := Lib.hid b103
      have HK := Lib.hid k102
      have c3' := k102.cell' c3 (fun h => h)
      have hsz5 := k102.size
      clear b103 k102
      obtain ⟨w7, rfl⟩ : ∃ y : World, y = x100 := ⟨_, rfl⟩
      go_wp2
      clear c3'
      go_loopw [4, 148] (fun v i wr => ∃ (k : Nat), k ≤ n ∧ i = .int .i64 k ∧ By wr w5.heap.size v (8 :: (twoS ht ++ twoS wd ++ (n : Int) :: wrCs (cms.take k))) ∧ Kp Nn w5 wr) (fun _ i _ => n - (intOf i).toNat)
      case atStart => exact ⟨0, by omega, rfl, by have h := HY.out; simpa [wrCs] using h, HK.out⟩
      case round =>
        clear HY HK hsz5
        obtain ⟨k, hk, rfl, hby, hkp⟩ := hrel
        obtain ⟨wo, rfl⟩ : ∃ wo : World, wo = wr := ⟨_, rfl⟩
        have HYR := Lib.hid hby
        have hsz := hkp.size
        by_cases hlt : k < n
        · have hkl : k < cms.length := by rw [← HN.out]; exact hlt
          obtain ⟨b, off, rfl, hb, hc⟩ := HRD.out.at_ (by omega)
          obtain ⟨p0, p1, p2, p3⟩ := cms_read hc k hkl
          have hkw : Kp Nn w wo := hkw5.trans hkp
          have d0 := hkw.cell' p0 (fun h => h)
          have d1 := hkw.cell' p1 (fun h => h)
          have d2 := hkw.cell' p2 (fun h => h)
          have d3 := hkw.cell' p3 (fun h => h)
          have hpk := HO.out _ (mem_getD cms k hkl)
          have hfk := fac_mem HFB.out _ (mem_getD cms k hkl)
          obtain ⟨p, hp⟩ : ∃ p, p = cms.getD k default := ⟨_, rfl⟩
          rw [← hp] at d0 d1 d2 d3 hpk hfk
          obtain ⟨pi, ph, pw, pq⟩ := p
          obtain ⟨⟨r1, r2⟩, ⟨r3, r4⟩, ⟨r5, r6⟩, ⟨r7, r8⟩⟩ := hpk
          obtain ⟨⟨f1, f2⟩, f3, f4⟩ := hfk
          simp only at d0 d1 d2 d3 r1 r2 r3 r4 r5 r6 r7 r8 f1 f2 f3 f4
          have HP := Lib.hid hp
          clear hc p0 p1 p2 p3 hp hby
          obtain ⟨z, hz, o1⟩ : ∃ z, z = 16 * ph + pw ∧ bits .or .u8 (ph * 16) pw = z := ⟨_, rfl, or_u8 _ _ (by omega) (by omega) (by omega) (by omega)⟩
          have HZ := Lib.hid hz
          clear hz hmu hbb
          obtain ⟨w3, hw3⟩ : ∃ w3, w3 = wo.alloc (.cells #[.int .u8 pi, .int .u8 ph, .int .u8 pw, .int .u8 pq] 121) := ⟨_, rfl⟩
          have hy3 := HYR.out.alloc (.cells #[.int .u8 pi, .int .u8 ph, .int .u8 pw, .int .u8 pq] 121)
          rw [← hw3] at hy3
          have hk3 : Kp Nn w5 w3 := by rw [hw3]; exact hkp.alloc _
          have hlen := wrCs_len (cms.take k)
          have hlen2 : (cms.take k).length ≤ 4 := by simp; omega
          have hsz3 := hk3.size
          obtain ⟨ap1, v4, w4, ap2, ap3, hby4, hk4, hat⟩ := by_newq w3 w5.heap.size _ _ hy3 [pi, z, pq] (by simp) (by simp [twoS]; omega) (by omega)
          rw [hw3] at ap1 ap2 ap3
          simp [u8s] at ap1 ap2 ap3
          have HY4 := Lib.hid hby4
          have hkp4 : Kp Nn w5 w4 := Kp.comp hk3 hk4 (by
            intro i hi h
            rcases h with h | h
            · exact h
            · have := (hy3.lt _ h).1; omega)
          clear hy3 hby4 hlen hlen2 hat hw3 hk3 hk4 hsz3
          go_wp2
          go_roundw
          case rel =>
            refine ⟨k + 1, by omega, by go_num, ?_, hkp4⟩
            rw [wrCs_succ cms k hkl, ← HP.out, wrComp, ← HZ.out]
            have h := HY4.out
            simpa using h
          case measure => simp [intOf]; omega
        · have hkm : k = n := by omega
          subst hkm
          have hy2 := HYR.out
          rw [List.take_of_length_le (by have := HN.out; omega)] at hy2
          have HY2 := Lib.hid hy2
          clear hy2 hlt hby
          go_wp2
          go_ret2
          rw [HE.out]
          exact WrPost.by_ HY2.out (hkw5.trans hkp)
  · skip
    intro N hN
    go_wp2
    obtain ⟨x106, hx⟩ : ∃ y, y = World.alloc w6 (.cells #[.int .u8 n] 5) := ⟨_, rfl⟩
    have k107 : Kp Nn w5 x106 := by rw [hx]; exact k0.alloc _
    have b108 := b0.alloc (.cells #[.int .u8 n] 5)
    have t109 := Lt.new w6 _ _ _ n b0
    rw [← hx] at b108 t109 ⊢
    refine hN _ _ (fun _ => k107) ?_
    clear hN N hx
    refine wpAnyT_one 1 (by kernel_rfl) rfl rfl ?_
    intro N hN
    go_wp2
    obtain ⟨x110, hx⟩ : ∃ y, y = World.alloc x106 (.cells #[.int .u8 8] 5) := ⟨_, rfl⟩
    have k111 : Kp Nn w5 x110 := by rw [hx]; exact k107.alloc _
    have b112 := b108.alloc (.cells #[.int .u8 8] 5)
    have t113 := Lt.new x106 _ _ _ 8 b108
    have t114 := t109.alloc (.cells #[.int .u8 8] 5)
    rw [← hx] at t114
    rw [← hx] at b112 t113 ⊢
    refine hN _ _ (fun _ => k111) ?_
    clear hN N hx
    refine wpAnyT_one 2 (by kernel_rfl) rfl rfl ?_
    obtain ⟨ap1, v116, x115, ap2, ap3, b118, kk120, o119⟩ := by_lit x110 _ _ _ b112 _ 8 t113 (by simp [twoS]) (by have := k111.size; omega)
    have k117 : Kp Nn w5 x115 := Kp.comp k111 kk120 (fun i hi h => h.elim id (fun h => by have := (b112.lt _ h).1; omega))
    have t121 := t114.kp kk120 o119
    intro N hN
    go_wp2
    refine hN _ _ (fun _ => k117) ?_
    clear hN N ap1 ap2 ap3 o119 kk120
    refine wpAnyT_one 5 (by kernel_rfl) rfl rfl ?_
    intro N hN
    go_wp2_with fail
    refine (two_v x115 _ _ _ ht hh0 hh1 b118 (by simp [twoS]) (by have := k117.size; omega)).mono ?_
    rintro e x122 ⟨v123, rfl, b125, kk127, o126⟩
    have k124 : Kp Nn w5 x122 := Kp.comp k117 kk127 (fun i hi h => h.elim id (fun h => by have := (b118.lt _ h).1; omega))
    have t128 := t121.kp kk127 o126
    go_wp2
    refine hN _ _ (fun _ => k124) ?_
    clear hN N o126 kk127
    refine wpAnyT_one 8 (by kernel_rfl) rfl rfl ?_
    intro N hN
    go_wp2_with fail
    refine (two_v x122 _ _ _ wd hw0 hw1 b125 (by simp [twoS]) (by have := k124.size; omega)).mono ?_
    rintro e x129 ⟨v130, rfl, b132, kk134, o133⟩
    have k131 : Kp Nn w5 x129 := Kp.comp k124 kk134 (fun i hi h => h.elim id (fun h => by have := (b125.lt _ h).1; omega))
    have t135 := t128.kp kk134 o133
    go_wp2
    refine hN _ _ (fun _ => k131) ?_
    clear hN N o133 kk134
    refine wpAnyT_one 14 (by kernel_rfl) rfl rfl ?_
    obtain ⟨ap1, v137, x136, ap2, ap3, b139, kk141, o140⟩ := by_lit x129 _ _ _ b132 _ (n : Int) t135 (by simp [twoS]) (by have := k131.size; omega)
    have k138 : Kp Nn w5 x136 := Kp.comp k131 kk141 (fun i hi h => h.elim id (fun h => by have := (b132.lt _ h).1; omega))
    intro N hN
    go_wp2
    refine hN _ _ (fun _ => k138) ?_
    clear hN N ap1 ap2 ap3 o140 kk141
    refine wpAnyT_one 15 (by kernel_rfl) rfl rfl ?_
    intro N hN
    go_wp2
    refine hN _ _ (fun h => absurd rfl h) (wpAnyT_end (by kernel_rfl) ?_)
    clear hN N
    have HY := Lib.hid b139
    have HK := Lib.hid k138
    have c3' := k138.cell' c3 (fun h => h)
    have hsz5 := k138.size
    clear b139 k138
    obtain ⟨w7, rfl⟩ : ∃ y : World, y = x136 := ⟨_, rfl⟩
    go_wp2
    clear c3'
    go_loopw [4, 148] (fun v i wr => ∃ (k : Nat), k ≤ n ∧ i = .int .i64 k ∧ By wr w5.heap.size v (8 :: (twoS ht ++ twoS wd ++ (n : Int) :: wrCs (cms.take k))) ∧ Kp Nn w5 wr) (fun _ i _ => n - (intOf i).toNat)
    case atStart => exact ⟨0, by omega, rfl, by have h := HY.out; simpa [wrCs] using h, HK.out⟩
    case round =>
      clear HY HK hsz5
      obtain ⟨k, hk, rfl, hby, hkp⟩ := hrel
      obtain ⟨wo, rfl⟩ : ∃ wo : World, wo = wr := ⟨_, rfl⟩
      have HYR := Lib.hid hby
      have hsz := hkp.size
      by_cases hlt : k < n
      · have hkl : k < cms.length := by rw [← HN.out]; exact hlt
        obtain ⟨b, off, rfl, hb, hc⟩ := HRD.out.at_ (by omega)
        obtain ⟨p0, p1, p2, p3⟩ := cms_read hc k hkl
        have hkw : Kp Nn w wo := hkw5.trans hkp
        have d0 := hkw.cell' p0 (fun h => h)
        have d1 := hkw.cell' p1 (fun h => h)
        have d2 := hkw.cell' p2 (fun h => h)
        have d3 := hkw.cell' p3 (fun h => h)
        have hpk := HO.out _ (mem_getD cms k hkl)
        have hfk := fac_mem HFB.out _ (mem_getD cms k hkl)
        obtain ⟨p, hp⟩ : ∃ p, p = cms.getD k default := ⟨_, rfl⟩
        rw [← hp] at d0 d1 d2 d3 hpk hfk
        obtain ⟨pi, ph, pw, pq⟩ := p
        obtain ⟨⟨r1, r2⟩, ⟨r3, r4⟩, ⟨r5, r6⟩, ⟨r7, r8⟩⟩ := hpk
        obtain ⟨⟨f1, f2⟩, f3, f4⟩ := hfk
        simp only at d0 d1 d2 d3 r1 r2 r3 r4 r5 r6 r7 r8 f1 f2 f3 f4
        have HP := Lib.hid hp
        clear hc p0 p1 p2 p3 hp hby
        obtain ⟨z, hz, o1⟩ : ∃ z, z = 16 * ph + pw ∧ bits .or .u8 (ph * 16) pw = z := ⟨_, rfl, or_u8 _ _ (by omega) (by omega) (by omega) (by omega)⟩
        have HZ := Lib.hid hz
        clear hz hmu hbb
        obtain ⟨w3, hw3⟩ : ∃ w3, w3 = wo.alloc (.cells #[.int .u8 pi, .int .u8 ph, .int .u8 pw, .int .u8 pq] 121) := ⟨_, rfl⟩
        have hy3 := HYR.out.alloc (.cells #[.int .u8 pi, .int .u8 ph, .int .u8 pw, .int .u8 pq] 121)
        rw [← hw3] at hy3
        have hk3 : Kp Nn w5 w3 := by rw [hw3]; exact hkp.alloc _
        have hlen := wrCs_len (cms.take k)
        have hlen2 : (cms.take k).length ≤ 4 := by simp; omega
        have hsz3 := hk3.size
        obtain ⟨ap1, v4, w4, ap2, ap3, hby4, hk4, hat⟩ := by_newq w3 w5.heap.size _ _ hy3 [pi, z, pq] (by simp) (by simp [twoS]; omega) (by omega)
        rw [hw3] at ap1 ap2 ap3
        simp [u8s] at ap1 ap2 ap3
        have HY4 := Lib.hid hby4
        have hkp4 : Kp Nn w5 w4 := Kp.comp hk3 hk4 (by
          intro i hi h
          rcases h with h | h
          · exact h
          · have := (hy3.lt _ h).1; omega)
        clear hy3 hby4 hlen hlen2 hat hw3 hk3 hk4 hsz3
        go_wp2
        go_roundw
        case rel =>
          refine ⟨k + 1, by omega, by go_num, ?_, hkp4⟩
          rw [wrCs_succ cms k hkl, ← HP.out, wrComp, ← HZ.out]
          have h := HY4.out
          simpa using h
        case measure => simp [intOf]; omega
      · have hkm : k = n := by omega
        subst hkm
        have hy2 := HYR.out
        rw [List.take_of_length_le (by have := HN.out; omega)] at hy2
        have HY2 := Lib.hid hy2
        clear hy2 hlt hby
        go_wp2
        go_ret2
        rw [HE.out]
        exact WrPost.by_ HY2.out (hkw5.trans hkp)

end Go.Proofs.YtnpkpikoeijdcaaDoor
