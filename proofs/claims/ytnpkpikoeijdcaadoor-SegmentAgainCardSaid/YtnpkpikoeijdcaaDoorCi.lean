/- Contract: segment.fill. -/
import Derived.Test.YtnpkpikoeijdcaaDoorCh
set_option linter.unusedVariables false
set_option linter.unusedSimpArgs false
namespace Go.Proofs.YtnpkpikoeijdcaaDoor
open Go Go.RowKit

/-- A segment in cells, its lists in memory of its own from block base on. -/
def SgV (w : World) (base : Nat) (s : Sg) (cs : Array Value) : Prop :=
  ∃ (qv hv fv pv iv : Value) (qcs hcs : List Value) (ds : ByteArray),
    cs = #[.int .u8 s.code, .int .i64 s.at_, .int .i64 s.end_, qv, hv, .int .u8 s.frame.kind, .int .i64 s.frame.width, .int .i64 s.frame.height, fv, pv, iv, .int .i64 s.restart, .string ds] ∧ bl ds = s.data ∧
    w.ownsRow base 103 66 qv s.quants.length qcs ∧ VL QtV w s.quants qcs ∧
    w.ownsRow base 94 19 hv s.huffs.length hcs ∧ VL HfV w s.huffs hcs ∧
    w.ownsRow base 121 4 fv s.frame.comps.length (cmsCells s.frame.comps) ∧
    w.ownsRow base 69 3 pv s.parts.length (ptsCells s.parts) ∧
    w.ownsRow base 5 1 iv s.ids.length (u8s s.ids)
def FillPost (w : World) (gs : Nat) (r : Except Int Sg) (e : Ending) (w' : World) : Prop :=
  match r with
  | .error er => e = .returned (.iface 32 (.int .i64 er)) ∧ Kp (fun i => i = gs) w w'
  | .ok s => e = .returned .nilIface ∧ Kp (fun i => i = gs) w w' ∧ ∃ cs, Blk w' gs 30 cs ∧ SgV w' w.heap.size s cs

theorem rdAll_err {α : Type} {rd : Int → List Int → Except Int (α × List Int)} (hrd : ∀ f d e, rd f d = .error e → e ≠ 0) {d : List Int} {e : Int} (h : rdAll rd d = .error e) : e ≠ 0 := by
  have key : ∀ (f : Nat) (d : List Int) (acc : List α) (e : Int), rdTables rd f d acc = .error e → e ≠ 0 := by
    intro f
    induction f with
    | zero =>
      intro d acc e h
      cases d with
      | nil => cases h
      | cons x d => injection h with h; omega
    | succ f ih =>
      intro d acc e h
      cases d with
      | nil => cases h
      | cons x d =>
        by_cases hb : 1 < x / 16 ∨ 3 < x % 16
        · rw [rdTables_bad _ _ _ _ _ hb] at h; injection h with h; omega
        · rw [rdTables_step _ _ _ _ _ hb] at h
          cases hr : rd x d with
          | error er => rw [hr] at h; injection h with h; subst h; exact hrd _ _ _ hr
          | ok q => rw [hr] at h; exact ih _ _ _ h
  unfold rdAll at h
  split at h
  · injection h with h; omega
  · exact key _ _ _ _ h
theorem framedS_range (f : Fr) : framedS f = 0 ∨ framedS f = 159 ∨ framedS f = 142 ∨ framedS f = 154 := by
  unfold framedS
  split
  · omega
  · split
    · omega
    · split <;> omega
theorem rdFrame_err {c : Int} {d : List Int} {e : Int} (h : rdFrame c d = .error e) : e ≠ 0 := by
  unfold rdFrame at h
  split at h
  · injection h with h; omega
  · split at h
    · injection h with h; omega
    · dsimp only at h
      split at h
      · rename_i h1; injection h with h; omega
      · cases h
theorem rdParts_err : ∀ {n : Nat} {d : List Int} {e : Int}, rdParts n d = .error e → e ≠ 0
  | 0, d, e, h => by cases h
  | n + 1, d, e, h => by
    rw [rdParts] at h
    split at h
    · injection h with h; omega
    · split at h
      · rename_i he; injection h with h; subst h; exact rdParts_err he
      · cases h
theorem rdScan_err {d : List Int} {e : Int} (h : rdScan d = .error e) : e ≠ 0 := by
  unfold rdScan at h
  split at h
  · injection h with h; omega
  · split at h
    · injection h with h; omega
    · exact rdParts_err h

theorem own_mono {w : World} {base base' : Nat} {e : TypeId} {size n : Nat} {v : Value} {xs : List Value} (h : w.ownsRow base e size v n xs) (hb : base' ≤ base) : w.ownsRow base' e size v n xs :=
  ⟨h.1, h.2.imp id fun ⟨g, cap, cur, h1, h2, h3⟩ => ⟨g, cap, cur, h1, Nat.le_trans hb h2, h3⟩⟩
theorem nil_own (w : World) (base : Nat) (e : TypeId) (size : Nat) : w.ownsRow base e size (.slice none 0 0) 0 [] := World.ownsRow_nil _ _ _ _

set_option maxHeartbeats 2000000 in
set_option maxRecDepth 100000 in
theorem fill_c (w : World) (gs : Nat) (d : ByteArray) (hs : (d.size : Int) ≤ 1000000) (code a ed : Int) (hc0 : 0 ≤ code) (hc1 : code ≤ 255)
    (hsg : Blk w gs 30 #[.int .u8 code, .int .i64 a, .int .i64 ed, .slice none 0 0, .slice none 0 0, .int .u8 0, .int .i64 0, .int .i64 0, .slice none 0 0, .slice none 0 0, .slice none 0 0, .int .i64 0, .string ⟨#[]⟩]) :
    Calls Tryd.prog 48 #[.pointer (some ⟨gs, 0, none⟩), .string d] w fun e w' => FillPost w gs (rdData code a ed (bl d)) e w' := by
  have hsgl := hsg.lt
  have HSG := Lib.hid hsg
  obtain ⟨w1, hw1⟩ : ∃ w1, w1 = ((w.alloc (.cells #[.pointer (some ⟨gs, 0, none⟩)] 109)).alloc (.cells #[.string d] 135)).alloc (.cells #[.pointer (some ⟨w.heap.size + 1, 0, none⟩)] 133) := ⟨_, rfl⟩
  have hk1 : Kp (fun i => i = gs) w w1 := by rw [hw1]; exact (((Kp.refl _ _).alloc _).alloc _).alloc _
  have hg1 : Blk w1 gs 30 #[.int .u8 code, .int .i64 a, .int .i64 ed, .slice none 0 0, .slice none 0 0, .int .u8 0, .int .i64 0, .int .i64 0, .slice none 0 0, .slice none 0 0, .slice none 0 0, .int .i64 0, .string ⟨#[]⟩] := by
    rw [hw1]; exact ((hsg.alloc _).alloc _).alloc _
  have hs1 : Blk w1 w.heap.size 109 #[.pointer (some ⟨gs, 0, none⟩)] := by rw [hw1]; exact ((Blk.new _ _ _).alloc _).alloc _
  have hb1 : Blk w1 (w.heap.size + 1) 135 #[.string d] := by
    rw [hw1]
    have := (Blk.new (w.alloc (.cells #[.pointer (some ⟨gs, 0, none⟩)] 109)) 135 #[.string d]).alloc (.cells #[.pointer (some ⟨w.heap.size + 1, 0, none⟩)] 133)
    simpa using this
  have hbb1 : Blk w1 (w.heap.size + 2) 133 #[.pointer (some ⟨w.heap.size + 1, 0, none⟩)] := by
    rw [hw1]
    have := Blk.new ((w.alloc (.cells #[.pointer (some ⟨gs, 0, none⟩)] 109)).alloc (.cells #[.string d] 135)) 133 #[.pointer (some ⟨w.heap.size + 1, 0, none⟩)]
    simpa using this
  have hgc := hg1.cell 0
  rw [hw1] at hgc
  simp at hgc
  have HW := Lib.hid hw1
  have HG1 := Lib.hid hg1
  have HS1 := Lib.hid hs1
  have HB1 := Lib.hid hb1
  have HBB1 := Lib.hid hbb1
  clear hsg hw1 hg1 hs1 hb1 hbb1
  by_cases h219 : code = 219
  · subst h219
    have hsp : rdData 219 a ed (bl d) = (rdAll rdQuant (bl d)).map fun l => { emptySg 219 a ed with quants := l } := by unfold rdData; simp
    have HSP := Lib.hid hsp
    have HERR := Lib.hid (fun e (h : rdAll rdQuant (bl d) = .error e) => rdAll_err (fun _ _ _ => rdQuant_err) h)
    have HTB := Lib.hid (qtables_c w1 gs (w.heap.size + 1) w.heap.size (w.heap.size + 2) d HB1.out hs _ _ _ _ _ _ _ _ _ _ _ _ _ rfl HG1.out HS1.out HBB1.out)
    clear hsp
    generalize rdAll rdQuant (bl d) = R at *
    go_enter Tryd.func48, Tryd.ntmps48
    go_wp2_with fail
    rw [← HW.out]
    refine HTB.out.mono ?_
    clear HTB
    intro e w2 hp
    cases R with
    | error er =>
      obtain ⟨rfl, hk2⟩ := hp
      have hq0 : (er != 0) = true := by simp [HERR.out er rfl]
      go_wp2
      go_ret
      rw [HSP.out]
      exact ⟨rfl, Kp.comp hk1 hk2 (by
        intro i hi h
        omega)⟩
    | ok l =>
      obtain ⟨rfl, hk2, v, cs, hb2, ho2, hv2⟩ := hp
      have HB2 := Lib.hid hb2
      have HO2 := Lib.hid ho2
      have HV2 := Lib.hid hv2
      clear hb2 ho2 hv2
      go_wp2
      go_ret
      rw [HSP.out]
      show FillPost w gs (.ok { emptySg 219 a ed with quants := l }) (.returned .nilIface) w2
      have hsv : SgV w2 w.heap.size { emptySg 219 a ed with quants := l } _ := ⟨v, _, _, _, _, cs, [], ⟨#[]⟩, rfl, rfl, own_mono HO2.out hk1.size, HV2.out, nil_own _ _ _ _, rfl, nil_own _ _ _ _, nil_own _ _ _ _, nil_own _ _ _ _⟩
      have hkz : Kp (fun i => i = gs) w w2 := Kp.comp hk1 hk2 (by
        intro i hi h
        omega)
      exact (⟨rfl, hkz, _, HB2.out, hsv⟩ : FillPost w gs (.ok _) (.returned .nilIface) w2)
  by_cases h196 : code = 196
  · subst h196
    have hsp : rdData 196 a ed (bl d) = (rdAll rdHuff (bl d)).map fun l => { emptySg 196 a ed with huffs := l } := by unfold rdData; simp
    have HSP := Lib.hid hsp
    have HERR := Lib.hid (fun e (h : rdAll rdHuff (bl d) = .error e) => rdAll_err (fun _ _ _ => rdHuff_err) h)
    have HTB := Lib.hid (htables_c w1 gs (w.heap.size + 1) w.heap.size (w.heap.size + 2) d HB1.out hs _ _ _ _ _ _ _ _ _ _ _ _ _ rfl HG1.out HS1.out HBB1.out)
    clear hsp
    generalize rdAll rdHuff (bl d) = R at *
    go_enter Tryd.func48, Tryd.ntmps48
    go_wp2_with fail
    rw [← HW.out]
    refine HTB.out.mono ?_
    clear HTB
    intro e w2 hp
    cases R with
    | error er =>
      obtain ⟨rfl, hk2⟩ := hp
      have hq0 : (er != 0) = true := by simp [HERR.out er rfl]
      go_wp2
      go_ret
      rw [HSP.out]
      exact ⟨rfl, Kp.comp hk1 hk2 (by
        intro i hi h
        omega)⟩
    | ok l =>
      obtain ⟨rfl, hk2, v, cs, hb2, ho2, hv2⟩ := hp
      have HB2 := Lib.hid hb2
      have HO2 := Lib.hid ho2
      have HV2 := Lib.hid hv2
      clear hb2 ho2 hv2
      go_wp2
      go_ret
      rw [HSP.out]
      show FillPost w gs (.ok { emptySg 196 a ed with huffs := l }) (.returned .nilIface) w2
      have hsv : SgV w2 w.heap.size { emptySg 196 a ed with huffs := l } _ := ⟨_, v, _, _, _, [], cs, ⟨#[]⟩, rfl, rfl, nil_own _ _ _ _, rfl, own_mono HO2.out hk1.size, HV2.out, nil_own _ _ _ _, nil_own _ _ _ _, nil_own _ _ _ _⟩
      have hkz : Kp (fun i => i = gs) w w2 := Kp.comp hk1 hk2 (by
        intro i hi h
        omega)
      exact (⟨rfl, hkz, _, HB2.out, hsv⟩ : FillPost w gs (.ok _) (.returned .nilIface) w2)
  by_cases h192 : code = 192
  · subst h192
    have hsp : rdData 192 a ed (bl d) = (rdFrame 192 (bl d)).map fun l => { emptySg 192 a ed with frame := l } := by unfold rdData; simp
    have HSP := Lib.hid hsp
    have HERR := Lib.hid (fun e (h : rdFrame 192 (bl d) = .error e) => rdFrame_err h)
    have HTB := Lib.hid (readFrame_c w1 gs d hs 192 (by omega) _ _ _ _ _ _ _ _ _ _ _ _ HG1.out)
    clear hsp
    generalize rdFrame 192 (bl d) = R at *
    go_enter Tryd.func48, Tryd.ntmps48
    go_wp2_with fail
    rw [← HW.out]
    refine HTB.out.mono ?_
    clear HTB
    intro e w2 hp
    cases R with
    | error er =>
      obtain ⟨rfl, hk2⟩ := hp
      have hq0 : (er != 0) = true := by simp [HERR.out er rfl]
      go_wp2
      go_ret
      rw [HSP.out]
      exact ⟨rfl, Kp.comp hk1 hk2 (by
        intro i hi h
        omega)⟩
    | ok l =>
      obtain ⟨rfl, hk2, v, ho2, hb2⟩ := hp
      have HB2 := Lib.hid hb2
      have HO2 := Lib.hid ho2
      clear hb2 ho2
      go_wp2
      go_ret
      rw [HSP.out]
      show FillPost w gs (.ok { emptySg 192 a ed with frame := l }) (.returned .nilIface) w2
      have hsv : SgV w2 w.heap.size { emptySg 192 a ed with frame := l } _ := ⟨_, _, v, _, _, [], [], ⟨#[]⟩, rfl, rfl, nil_own _ _ _ _, rfl, nil_own _ _ _ _, rfl, own_mono HO2.out hk1.size, nil_own _ _ _ _, nil_own _ _ _ _⟩
      have hkz : Kp (fun i => i = gs) w w2 := Kp.comp hk1 hk2 (by
        intro i hi h
        omega)
      exact (⟨rfl, hkz, _, HB2.out, hsv⟩ : FillPost w gs (.ok _) (.returned .nilIface) w2)
  by_cases h193 : code = 193
  · subst h193
    have hsp : rdData 193 a ed (bl d) = (rdFrame 193 (bl d)).map fun l => { emptySg 193 a ed with frame := l } := by unfold rdData; simp
    have HSP := Lib.hid hsp
    have HERR := Lib.hid (fun e (h : rdFrame 193 (bl d) = .error e) => rdFrame_err h)
    have HTB := Lib.hid (readFrame_c w1 gs d hs 193 (by omega) _ _ _ _ _ _ _ _ _ _ _ _ HG1.out)
    clear hsp
    generalize rdFrame 193 (bl d) = R at *
    go_enter Tryd.func48, Tryd.ntmps48
    go_wp2_with fail
    rw [← HW.out]
    refine HTB.out.mono ?_
    clear HTB
    intro e w2 hp
    cases R with
    | error er =>
      obtain ⟨rfl, hk2⟩ := hp
      have hq0 : (er != 0) = true := by simp [HERR.out er rfl]
      go_wp2
      go_ret
      rw [HSP.out]
      exact ⟨rfl, Kp.comp hk1 hk2 (by
        intro i hi h
        omega)⟩
    | ok l =>
      obtain ⟨rfl, hk2, v, ho2, hb2⟩ := hp
      have HB2 := Lib.hid hb2
      have HO2 := Lib.hid ho2
      clear hb2 ho2
      go_wp2
      go_ret
      rw [HSP.out]
      show FillPost w gs (.ok { emptySg 193 a ed with frame := l }) (.returned .nilIface) w2
      have hsv : SgV w2 w.heap.size { emptySg 193 a ed with frame := l } _ := ⟨_, _, v, _, _, [], [], ⟨#[]⟩, rfl, rfl, nil_own _ _ _ _, rfl, nil_own _ _ _ _, rfl, own_mono HO2.out hk1.size, nil_own _ _ _ _, nil_own _ _ _ _⟩
      have hkz : Kp (fun i => i = gs) w w2 := Kp.comp hk1 hk2 (by
        intro i hi h
        omega)
      exact (⟨rfl, hkz, _, HB2.out, hsv⟩ : FillPost w gs (.ok _) (.returned .nilIface) w2)
  by_cases h218 : code = 218
  · subst h218
    have hsp : rdData 218 a ed (bl d) = (rdScan (bl d)).map fun l => { emptySg 218 a ed with ids := l.1, parts := l.2 } := by unfold rdData; simp
    have HSP := Lib.hid hsp
    have HERR := Lib.hid (fun e (h : rdScan (bl d) = .error e) => rdScan_err h)
    have HTB := Lib.hid (readScan_c w1 gs d hs _ _ _ _ _ _ _ _ _ _ _ HG1.out)
    clear hsp
    generalize rdScan (bl d) = R at *
    go_enter Tryd.func48, Tryd.ntmps48
    go_wp2_with fail
    rw [← HW.out]
    refine HTB.out.mono ?_
    clear HTB
    intro e w2 hp
    cases R with
    | error er =>
      obtain ⟨rfl, hk2⟩ := hp
      have hq0 : (er != 0) = true := by simp [HERR.out er rfl]
      go_wp2
      go_ret
      rw [HSP.out]
      exact ⟨rfl, Kp.comp hk1 hk2 (by
        intro i hi h
        omega)⟩
    | ok l =>
      obtain ⟨ids, pts⟩ := l
      obtain ⟨rfl, hk2, pv, iv, hp2, hi2, hb2⟩ := hp
      have HB2 := Lib.hid hb2
      have HP2 := Lib.hid hp2
      have HI2 := Lib.hid hi2
      clear hb2 hp2 hi2
      go_wp2
      go_ret
      rw [HSP.out]
      show FillPost w gs (.ok { emptySg 218 a ed with ids := ids, parts := pts }) (.returned .nilIface) w2
      have hsv : SgV w2 w.heap.size { emptySg 218 a ed with ids := ids, parts := pts } _ := ⟨_, _, _, pv, iv, [], [], ⟨#[]⟩, rfl, rfl, nil_own _ _ _ _, rfl, nil_own _ _ _ _, rfl, nil_own _ _ _ _, own_mono HP2.out hk1.size, own_mono HI2.out hk1.size⟩
      have hkz : Kp (fun i => i = gs) w w2 := Kp.comp hk1 hk2 (by
        intro i hi h
        omega)
      exact (⟨rfl, hkz, _, HB2.out, hsv⟩ : FillPost w gs (.ok _) (.returned .nilIface) w2)
  have hgW := HG1.out
  have hc11 := hgW.cell 11
  have hc12 := hgW.cell 12
  have hf11 := hgW.frozen 11
  have hf12 := hgW.frozen 12
  have hbW := HS1.out.cell 0
  have hW := HW.out
  clear hgW
  by_cases h221 : code = 221
  · subst h221
    have HR := Lib.hid (bl_range d)
    by_cases hd : d.size = 2
    · have hsp : rdData 221 a ed (bl d) = .ok { emptySg 221 a ed with restart := (bl d).getD 0 0 * 256 + (bl d).getD 1 0 } := by
        unfold rdData; simp [bl_length, hd]
      have HSP := Lib.hid hsp
      have h0 : 0 < d.size := by omega
      have h1 : 1 < d.size := by omega
      have h1i : (1 : Int) < (d.size : Int) := by omega
      have v0 := bl_get d 0 h0
      have v1 := bl_get d 1 h1
      have r0 := bl_range d 0
      have r1 := bl_range d 1
      rw [← v0] at r0
      rw [← v1] at r1
      obtain ⟨r0a, r0b⟩ := r0
      obtain ⟨r1a, r1b⟩ := r1
      obtain ⟨rs, hrs, o1⟩ : ∃ rs : Int, rs = (bl d).getD 0 0 * 256 + (bl d).getD 1 0 ∧ bits .or .i64 ((d[0].toNat : Int) * (256 : Int)) (d[1].toNat : Int) = rs :=
        ⟨_, rfl, by rw [← v0, ← v1]; exact or_i64 _ _ r0a r0b r1a r1b⟩
      rw [← hrs] at HSP
      have hd' : ((d.size : Int) != 2) = false := by simp; omega
      clear hsp v0 v1 hrs hd
      rw [hW] at hc11 hf11 hbW
      simp at hc11 hf11 hbW
      have HBW : Hid _ := hbW
      go_enter Tryd.func48, Tryd.ntmps48
      go_wp2
      rw [← HW.out]
      have hbw : w1.cell? ⟨w.heap.size, 0, none⟩ = some (.pointer (some ⟨gs, 0, none⟩)) := by rw [HS1.out.cell]; rfl
      have hg11 : w1.cell? ⟨gs, 11, none⟩ = some (.int .i64 0) := by rw [HG1.out.cell]; rfl
      have hg11f := HG1.out.frozen 11
      clear hc11 hf11 hbW hW HBW hgc
      refine wp_region_lex (fun w' => w'.cell? ⟨w.heap.size, 0, none⟩ = some (.pointer (some ⟨gs, 0, none⟩))) 11 (by kernel_rfl) (by kernel_rfl) (hbw) ?_
      simp only [List.take_succ_cons, List.take_zero, List.drop_succ_cons, List.drop_zero]
      intro hsn hsx N hN
      repeat (go_big_quiet_step (fail))
      refine wpQuiet_nil (hN _ ?_)
      clear hN N hsn hsx
      refine wpTl_last ?_
      intro N hN
      go_wp2
      go_ret
      rw [HSP.out]
      exact ⟨rfl, (hk1.drew).setCell (.inl rfl) _, _, (HG1.out.drew.set_ 11 _), _, _, _, _, _, [], [], ⟨#[]⟩, rfl, rfl, nil_own _ _ _ _, rfl, nil_own _ _ _ _, rfl, nil_own _ _ _ _, nil_own _ _ _ _, nil_own _ _ _ _⟩
    · have hsp : rdData 221 a ed (bl d) = .error 152 := by
        unfold rdData; simp [bl_length, hd]
      have HSP := Lib.hid hsp
      have hd' : ((d.size : Int) != 2) = true := by simp; omega
      clear hsp hd
      go_enter Tryd.func48, Tryd.ntmps48
      go_wp2
      go_ret
      rw [HSP.out, ← HW.out]
      exact ⟨rfl, hk1⟩
  · have hsp : rdData code a ed (bl d) = .ok { emptySg code a ed with data := bl d } := by
      unfold rdData
      rw [if_neg h219, if_neg h196, if_neg (by omega), if_neg h218, if_neg h221]
    have HSP := Lib.hid hsp
    have b219 : (code == 219) = false := by simp; omega
    have b196 : (code == 196) = false := by simp; omega
    have b192 : (code == 192) = false := by simp; omega
    have b193 : (code == 193) = false := by simp; omega
    have b218 : (code == 218) = false := by simp; omega
    have b221 : (code == 221) = false := by simp; omega
    rw [hW] at hc12 hf12 hbW
    simp at hc12 hf12 hbW
    clear hsp h219 h196 h192 h193 h218 h221 hW
    go_enter Tryd.func48, Tryd.ntmps48
    go_wp2
    go_ret
    rw [HSP.out, ← HW.out]
    exact ⟨rfl, hk1.setCell (.inl rfl) _, _, HG1.out.set_ 12 _, _, _, _, _, _, [], [], d, rfl, rfl, nil_own _ _ _ _, rfl, nil_own _ _ _ _, rfl, nil_own _ _ _ _, nil_own _ _ _ _, nil_own _ _ _ _⟩
end Go.Proofs.YtnpkpikoeijdcaaDoor
