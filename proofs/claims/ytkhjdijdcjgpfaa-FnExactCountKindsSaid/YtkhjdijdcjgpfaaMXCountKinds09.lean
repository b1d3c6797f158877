/- Texts put together: CSym, LeastI, Ren2, Rotal. -/
import Derived.Test.YtkhjdijdcjgpfaaMXCountKinds08
import Derived.Deep.RegionHeld3
import Derived.Test.YtkhjdijdcjgpfaaMXCountKinds02
import Derived.Deep.DeepCutAuto
import Derived.Test.YtkhjdijdcjgpfaaMXCountKinds01
namespace Go.Proofs.Ytkhjdijdcjgpfaa
open Go.RowKit Go.Sort
set_option maxRecDepth 100000
attribute [local go_sem] Oper.semAt_some
/-- how many orders of this list leave the tour as it is -/
noncomputable def cntL (xs : List Int) (l : List (List Nat)) : Nat := (l.filter fun ns => decide (xs = rnL xs (nI ns))).length
theorem cnt_snoc (xs : List Int) (l : List (List Nat)) (ns : List Nat) : cntL xs (l ++ [ns]) = cntL xs l + (decide (xs = rnL xs (nI ns))).toNat := by
  unfold cntL
  rw [List.filter_append, List.length_append]
  congr 1
  rw [List.filter_cons]
  cases decide (xs = rnL xs (nI ns)) <;> simp
noncomputable def symB6 (s : Int) (xs : List Int) : Bool := tourB s xs && decide (s ≤ 6)
noncomputable def symN (s : Int) (xs : List Int) : Int := if symB6 s xs = true then (cntL xs (ordL xs.length) : Int) else 0
theorem cnt_le (xs : List Int) (l : List (List Nat)) : cntL xs l ≤ l.length := List.length_filter_le _ _
theorem wrap_wrap1 (a : Int) : wrap64 (wrap64 a + 1) = wrap64 (a + 1) := by unfold wrap64; omega
/-- what lies in the boxes between two rounds -/
def SymI (w0 : World) (xs : List Int) (cb tb : Nat) (n : Nat) (sl : Value) (done : List (List Nat)) (W : World) : Prop :=
  W.cell? ⟨cb, 0, none⟩ = some (.int .i64 (wrap64 (cntL xs done : Nat))) ∧ W.frozen? ⟨cb, 0, none⟩ = false ∧ TBox W tb n sl ∧ Rd W sl xs ∧ Below w0.heap.size w0 W
theorem SymI.abn {w0 : World} {xs : List Int} {cb tb n B : Nat} {sl : Value} (h0 : Rd w0 sl xs) (hc : cb < B) (ht : tb < B) (hw : w0.heap.size ≤ B) : AbN B (SymI w0 xs cb tb n sl) := by
  intro s W W' row h hg hr
  obtain ⟨h1, h2, h3, h4, h5⟩ := h
  have hb : Below w0.heap.size w0 W' := h5.grown hg h5.size (fun k e => Nat.le_trans hw (hr k e))
  have hcW := World.block_lt_of_cell? W _ h1
  refine ⟨(World.cell?_of_block (hg.block cb hcW (fun e => by have := hr _ e.symm; omega))).trans h1, (frozen_of_block (hg.block cb hcW (fun e => by have := hr _ e.symm; omega))).trans h2, h3.kept hg (fun e => by have := hr _ e.symm; omega), h0.below hb, hb⟩
end Go.Proofs.Ytkhjdijdcjgpfaa

namespace Go.Proofs.Ytkhjdijdcjgpfaa
open Go.RowKit Go.Sort
set_option maxRecDepth 100000
attribute [local go_sem] Oper.semAt_some
noncomputable def lnS (s : Int) (xs : List Int) : Int := if symB6 s xs = true then s else 0
noncomputable def lnL (s : Int) (xs : List Int) : List Int := if symB6 s xs = true then pickL xs (ordL xs.length) xs else []
theorem ln_no {s : Int} {xs : List Int} (h : symB6 s xs = false) : lnS s xs = 0 ∧ lnL s xs = [] := by simp [lnS, lnL, h]
theorem ln_yes {s : Int} {xs : List Int} (h : symB6 s xs = true) : lnS s xs = s ∧ lnL s xs = pickL xs (ordL xs.length) xs := by simp [lnS, lnL, h]
theorem pick_snoc (xs : List Int) (l : List (List Nat)) (ns : List Nat) (L : List Int) : pickL xs (l ++ [ns]) L = if codeN (rnL xs (nI ns)) < codeN (pickL xs l L) then rnL xs (nI ns) else pickL xs l L := by unfold pickL; rw [List.foldl_append]; rfl
theorem pick_tour {s : Int} {xs : List Int} (hp : tourP s xs) (l : List (List Nat)) (hl : ∀ ns ∈ l, ns ∈ ordL xs.length) : tourP s (pickL xs l xs) := by
  rcases (pick_least xs l xs).1 with h | ⟨ns, hns, h⟩
  · rw [h]; exact hp
  · rw [h]; exact rn_tour hp (perm_nI.2 (hl ns hns))
def BoxOT (w0 W : World) (g : Nat) : Prop := BoxF W g 0 (.slice none 0 0) ∧ w0.heap.size ≤ g
theorem BoxOT.below {w0 W W' : World} {g : Nat} (h : BoxOT w0 W g) (hb : Below W.heap.size W W') : BoxOT w0 W' g := ⟨BoxF.below h.1 hb, h.2⟩
theorem BoxOT.new {w0 : World} (W : World) (h : w0.heap.size ≤ W.heap.size) : BoxOT w0 (W.alloc (.cells #[.int .i64 0, .slice none 0 0] 25)) W.heap.size := ⟨BoxF.new W 0 (.slice none 0 0) 25, h⟩
def TrCut (w0 : World) (S : Int) (L : List Int) (p : Value) (wx : World) : Prop :=
  ∃ gB Y cy, p = .pointer (some ⟨gB, 0, none⟩) ∧ BoxF wx gB S (.slice Y L.length cy) ∧ Own wx w0.heap.size (.slice Y L.length cy) L ∧ ((Value.slice Y L.length cy).ownBlock = none ∨ (Value.slice Y L.length cy).ownBlock ≠ some gB) ∧ w0.heap.size ≤ gB ∧ Below w0.heap.size w0 wx
/-- between two rounds: the best tour so far in its box; its row is protected, or old -/
def LnI (w0 : World) (xs : List Int) (bb tb rb n B : Nat) (sl : Value) (done : List (List Nat)) (Pt : Nat → Prop) (W : World) : Prop :=
  ∃ Y cy, BoxF W bb n (.slice Y n cy) ∧ Own W w0.heap.size (.slice Y n cy) (pickL xs done xs) ∧ (∀ r, (Value.slice Y n cy).ownBlock = some r → r ≠ bb ∧ (r < B ∨ Pt r) ∧ r ≠ rb) ∧ TBox W tb n sl ∧ BoxF W rb 0 (.slice none 0 0) ∧ (∀ ns ∈ done, ns ∈ ordL n) ∧ Below w0.heap.size w0 W
theorem LnI.abp {w0 : World} {xs : List Int} {bb tb rb n B : Nat} {sl : Value} (hc : bb < B) (ht : tb < B) (hr0 : rb < B) (hw : w0.heap.size ≤ B) : AbP B (LnI w0 xs bb tb rb n B sl) := by
  intro s Pt W W' row h hg hr
  obtain ⟨Y, cy, h1, h2, h3, h4, h7, h5, h6⟩ := h
  refine ⟨Y, cy, h1.kept hg (fun e => by have := (hr _ e.symm).1; omega), h2.kept hg ?_, h3, h4.kept hg (fun e => by have := (hr _ e.symm).1; omega), h7.kept hg (fun e => by have := (hr _ e.symm).1; omega), h5, h6.grown hg h6.size (fun k e => Nat.le_trans hw (hr k e).1)⟩
  rcases e : (Value.slice Y n cy).ownBlock with _ | k
  · exact .inl rfl
  · right
    intro e2
    obtain ⟨q1, q2⟩ := hr k e2.symm
    rcases (h3 k e).2.1 with h | h
    · omega
    · exact q2 h
theorem own_put {W : World} {D base : Nat} {o o' : Obj} {v : Value} {xs : List Int} (hD : W.heap[D]? = some o) (ho : o.isCells = false) (h : Own W base v xs) : Own (W.putObj D o') base v xs := by
  refine ⟨h.1, ?_⟩
  rcases h.2 with h0 | ⟨g, cap, cur, hv, hg, hh, r⟩
  · exact .inl h0
  · exact .inr ⟨g, cap, cur, hv, hg, (KpC.of_put (cb := g + 1) o' hD ho).same _ _ (by omega) hh rfl, r⟩
theorem indices_ex (n : Nat) (hn : n ≤ 1000) (w : World) (h1 : 1 ≤ n) :
    Calls Try.prog 63 #[.int .i64 n] w fun e w' => ∃ g, e = .returned (.slice (some ⟨g, 0, none⟩) n n) ∧ Own w' w.heap.size (.slice (some ⟨g, 0, none⟩) n n) (idL n) ∧ Below w.heap.size w w' :=
  (indices_any n hn w h1).mono fun _ _ ⟨h1, h2, h3⟩ => ⟨_, h1, h2, h3⟩
set_option maxHeartbeats 8000000 in
theorem implLeast (s : Int) (sl : Value) (xs : List Int) (w : World) (h : Rd w sl xs) :
    Calls Try.prog 108 #[.agg #[.int .i64 s, sl]] w fun e w' => ∃ sl', e = .returned (.tuple #[.agg #[.int .i64 (lnS s xs), sl'], .bool (symB6 s xs)]) ∧ Own w' w.heap.size sl' (lnL s xs) ∧ Below w.heap.size w w' := by
  have HR := Lib.hid h
  obtain ⟨A, c, rfl, -, hcm, -⟩ := h
  unfold maxLen at hcm
  rcases q0 : tourB s xs with _ | _
  · have hE := ln_no (s := s) (xs := xs) (by simp [symB6, q0])
    rw [hE.1, hE.2, show symB6 s xs = false by simp [symB6, q0]]
    clear hE
    go_enter Try.func108, Try.ntmps108
    go_wp2_with fail
    have b0 := (below_alloc1 w (.cells #[.int .i64 s, .slice A xs.length c] 25)).alloc (by simp) (.cells #[.int .i64 0, .slice none 0 0] 25)
    have x0 := (TBox.new w s (.slice A xs.length c) 25).below (below_alloc1 _ (.cells #[.int .i64 0, .slice none 0 0] 25))
    have t0 := BoxF.new (w.alloc (.cells #[.int .i64 s, .slice A xs.length c] 25)) 0 (.slice none 0 0) 25
    simp only [World.size_alloc] at t0
    generalize (w.alloc (.cells #[.int .i64 s, .slice A xs.length c] 25)).alloc (.cells #[.int .i64 0, .slice none 0 0] 25) = w0 at *
    have HX0 := Lib.hid x0
    have HB0 := Lib.hid b0
    have HT0 := Lib.hid t0
    clear x0 b0 t0
    have y0_0 := HX0.out.1
    have y1_0 := HX0.out.2
    go_wp2_with fail
    refine (implTourOk s _ xs _ (HR.out.below HB0.out)).mono ?_
    rintro e w1 ⟨rfl, hb⟩
    have HX1 := Lib.hid (HX0.out.below hb)
    have HT1 := Lib.hid (HT0.out.below hb)
    have HB1 := Lib.hid (Below.then HB0.out hb)
    clear hb HX0 HT0 HB0 y0_0 y1_0
    have y0_1 := HX1.out.1
    have y1_1 := HX1.out.2
    rw [q0]
    have v0 := HT1.out.1.1
    have v1 := HT1.out.1.2
    have f0 := HT1.out.2 0
    have f1 := HT1.out.2 1
    have HBx := Lib.hid ((HB1.out.setCell (p := ⟨w.heap.size + 1, 0, none⟩) (by simp) (.int .i64 0)).setCell (p := ⟨w.heap.size + 1, 1, none⟩) (by simp) (.slice none 0 0))
    have R0 : Hid (((w1.setCell ⟨w.heap.size + 1, 0, none⟩ (.int .i64 0)).setCell ⟨w.heap.size + 1, 1, none⟩ (.slice none 0 0)).cell? ⟨w.heap.size + 1, 0, none⟩ = some (.int .i64 0)) := (World.cell?_setCell_other _ _ _ _ (by simp)).trans (World.cell?_setCell_same _ _ _ v0)
    have R1 : Hid (((w1.setCell ⟨w.heap.size + 1, 0, none⟩ (.int .i64 0)).setCell ⟨w.heap.size + 1, 1, none⟩ (.slice none 0 0)).cell? ⟨w.heap.size + 1, 1, none⟩ = some (.slice none 0 0)) := World.cell?_setCell_same _ _ _ ((World.cell?_setCell_other _ _ _ _ (by simp)).trans v1)
    go_wp2
    have r0 := R0.out
    have r1 := R1.out
    refine bodyPost_ret (v := .tuple #[.agg #[.int .i64 0, .slice none 0 0], .bool false]) (by simp only [results, Try.results108]; simp [go_sem, r0, r1]) rfl ⟨_, rfl, Own.nil_ _ _, HBx.out⟩
  · have hp := tourB_true.1 q0
    have hs := hp.1
    have hsl := hp.2.1
    have HP := Lib.hid hp
    have HID := Lib.hid (rn_id hp)
    clear hp
    by_cases h6 : s ≤ 6
    · have q6 : symB6 s xs = true := by simp [symB6, q0, h6]
      have HE := Lib.hid (ln_yes q6)
      rw [q6]
      clear q6
      generalize hln : xs.length = n at *
      obtain rfl : s = (n : Int) := by omega
      have HL := Lib.hid hln
      clear hln hsl
      have h6n : n ≤ 6 := by omega
      have h6b : decide ((6 : Int) < (n : Int)) = false := decide_eq_false (by omega)
      clear h6
      refine calls_of_wpM Try.func108 rfl ?_
      simp only [Try.ntmps108, List.size_toArray, List.length_cons, List.length_nil, Nat.reduceAdd, Nat.reduceSub, Array.replicate_succ, Array.replicate_zero, List.push_toArray, List.append_toArray, List.nil_append, List.cons_append]
      go_wp2_with fail
      have b0 := (below_alloc1 w (.cells #[.int .i64 n, .slice A n c] 25)).alloc (by simp) (.cells #[.int .i64 0, .slice none 0 0] 25)
      have x0 := (TBox.new w n (.slice A n c) 25).below (below_alloc1 _ (.cells #[.int .i64 0, .slice none 0 0] 25))
      have t0 := BoxF.new (w.alloc (.cells #[.int .i64 n, .slice A n c] 25)) 0 (.slice none 0 0) 25
      simp only [World.size_alloc] at t0
      generalize (w.alloc (.cells #[.int .i64 n, .slice A n c] 25)).alloc (.cells #[.int .i64 0, .slice none 0 0] 25) = w0 at *
      have HX0 := Lib.hid x0
      have HB0 := Lib.hid b0
      have HT0 := Lib.hid t0
      clear x0 b0 t0
      have y0_0 := HX0.out.1
      have y1_0 := HX0.out.2
      go_wp2_with fail
      refine (implTourOk n _ xs _ (HR.out.below HB0.out)).mono ?_
      rintro e w1 ⟨rfl, hb⟩
      have HX1 := Lib.hid (HX0.out.below hb)
      have HT1 := Lib.hid (HT0.out.below hb)
      have HB1 := Lib.hid (Below.then HB0.out hb)
      clear hb HX0 HT0 HB0 y0_0 y1_0
      have y0_1 := HX1.out.1
      have y1_1 := HX1.out.2
      rw [q0]
      go_wp2_with fail
      have HKP : Hid (∀ W, Below w1.heap.size w1 W → W.cell? ⟨w.heap.size, 0, none⟩ = some (.int .i64 n) ∧ W.cell? ⟨w.heap.size, 1, none⟩ = some (.slice A n c)) := fun W hb => ⟨(HX1.out.below hb).1, (HX1.out.below hb).2⟩
      have BB0 : Below w1.heap.size w1 w1.drew := (Below.refl _ _).drew
      have BB0B : Below w1.heap.size w1 (w1.drew.alloc (.cells #[.int .i64 0, .slice none 0 0] 25)) := BB0.alloc BB0.size _
      clear y0_1 y1_1
      go_cut [4] from 7 to 35 (fun s4 wx => TrCut w1 n (rnL xs (idL n)) s4 wx)
      case first =>
        go_region_held3 (fun W => W.cell? ⟨w.heap.size, 0, none⟩ = some (.int .i64 n) ∧ W.cell? ⟨w.heap.size, 1, none⟩ = some (.slice A n c))
          (first | exact HKP.out _ BB0 | exact HKP.out _ BB0B | exact HKP.out _ BB1 | exact HKP.out _ (BB1.alloc BB1.size _) | exact HKP.out _ BB2 | exact HKP.out _ (BB2.alloc BB2.size _) | exact HKP.out _ BBS)
          (first
            | (go_at_call 63; refine (indices_ex n (by omega) w1.drew (by omega)).mono ?_; rintro e v1 ⟨gi, rfl, oo1, hb⟩; have BB1 := Below.then BB0 hb; (try have HX1' := HX0'.below hb); clear hb)
            | (go_at_call 63; refine (indices_ex n (by omega) (w1.drew.alloc (.cells #[.int .i64 0, .slice none 0 0] 25)) (by omega)).mono ?_; rintro e v1 ⟨gi, rfl, oo1, hb⟩; have BB1 := Below.then BB0B hb; have HX1' := (show BoxOT w1 (w1.drew.alloc (.cells #[.int .i64 0, .slice none 0 0] 25)) w1.heap.size from BoxOT.new w1.drew BB0.size).below hb; clear hb)
            | (go_at_call 95; refine (renamed_any n (.slice A n c) xs (idL n) _ v1 (HR.out.below (Below.then HB1.out BB1)) HP.out oo1.rd (by rw [HL.out]; exact id_perm n)).mono ?_; rintro e v2 ⟨sl2, rfl, hoy, -, hb⟩; obtain ⟨Z2, cz2, rfl, -, -, -⟩ := hoy.form; have BB2 := Below.then BB1 hb; (try have HX2' := HX1'.below hb); have OY := hoy.mono BB1.size; (try have NB := own_ne (fun k hk => (hoy.lt k hk).1) HX1'.1.gt); (try have BBS := (BB2.setCell (p := ⟨_, 0, none⟩) HX2'.2 (.int .i64 n)).setCell (p := ⟨_, 1, none⟩) HX2'.2 (.slice Z2 (rnL xs (idL n)).length cz2)); (try have v0 := HX2'.1.1.1); (try have v1 := HX2'.1.1.2); (try have f0 := HX2'.1.2 0); (try have f1 := HX2'.1.2 1); clear hb hoy)
            | (go_at_call 95; refine (renamed_any n (.slice A n c) xs (idL n) _ (v1.alloc (.cells #[.int .i64 0, .slice none 0 0] 25)) (HR.out.below (Below.then HB1.out (BB1.alloc BB1.size _))) HP.out (Own.alloc oo1 _).rd (by rw [HL.out]; exact id_perm n)).mono ?_; rintro e v2 ⟨sl2, rfl, hoy, -, hb⟩; obtain ⟨Z2, cz2, rfl, -, -, -⟩ := hoy.form; have BB2 := Below.then (BB1.alloc BB1.size _) hb; have HX2' := (BoxOT.new (w0 := w1) v1 BB1.size).below hb; have OY := hoy.mono (BB1.alloc BB1.size (.cells #[.int .i64 0, .slice none 0 0] 25)).size; have NB := own_ne (fun k hk => (hoy.lt k hk).1) (BoxOT.new (w0 := w1) v1 BB1.size).1.gt; (try have BBS := (BB2.setCell (p := ⟨_, 0, none⟩) HX2'.2 (.int .i64 n)).setCell (p := ⟨_, 1, none⟩) HX2'.2 (.slice Z2 (rnL xs (idL n)).length cz2)); (try have v0 := HX2'.1.1.1); (try have v1 := HX2'.1.1.2); (try have f0 := HX2'.1.2 0); (try have f1 := HX2'.1.2 1); clear hb hoy))
        all_goals first
          | (go_wp2_with fail; go_meet; exact ⟨_, _, _, rfl, HX2'.1.set01 n _, (OY.kept (setCell_grown _ _ _) NB).kept (setCell_grown _ _ _) NB, NB, HX2'.2, BBS⟩)
          | (go_wp2_with fail; go_meet; exact ⟨_, _, _, rfl, BoxF.new v2 n _ _, Own.alloc OY _, box_new_of (fun k hk => (OY.lt k hk).2), BB2.size, BB2.alloc BB2.size _⟩)
      case rest =>
        obtain ⟨bb, Y, cy, rfl, hbx, hob, hnb, hbg, hbw⟩ := hcut
        rw [HID.out] at hbx hob hnb
        rw [HL.out] at hbx hob hnb
        have HX2 := Lib.hid (HX1.out.below hbw)
        have HT2 := Lib.hid (HT1.out.below hbw)
        have HB2 := Lib.hid (Below.then HB1.out hbw)
        have HBX := Lib.hid hbx
        have HOB1 := Lib.hid hob
        have HOB := Lib.hid (hob.mono HB1.out.size)
        have HNB := Lib.hid hnb
        have htb := HT1.out.gt
        have hbbw := hbx.gt
        have HW1 := Lib.hid hbw
        clear hbx hob hnb hbw HX1 HB1 HT1 HKP BB0 BB0B HID
        have y0_2 := HX2.out.1
        go_wp2_with fail
        refine (indices_ex n (by omega) wc (by omega)).mono ?_
        rintro e w3 ⟨gi, rfl, ho3, hb3⟩
        have HO3 := Lib.hid ho3
        have HB3 := Lib.hid hb3
        clear ho3 hb3 y0_2
        go_wp2_with fail
        refine (orders_any _ n n w3).mono ?_
        rintro e w4 ⟨rfl, hw4⟩
        have HW4 := Lib.hid hw4
        clear hw4
        go_wp2_with fail
        have s3 := HO3.out.lt gi rfl
        have h4l : w3.heap.size < w4.heap.size := by rw [HW4.out]; simp
        have b34 : Below w3.heap.size w3 w4 := by rw [HW4.out]; exact below_alloc1 _ _
        have b24 := Below.then HB3.out b34
        have HB4 := Lib.hid (Below.then HB2.out b24)
        have HX4 := Lib.hid (HX2.out.below b24)
        have HT4 := Lib.hid (HT2.out.below b24)
        have HBX4 := Lib.hid (HBX.out.below b24)
        have HOB4 := Lib.hid (HOB.out.below b24)
        have hs24 := b24.size
        have SEQ := orders_allP (n := n) (by omega) w3.heap.size gi bb w4 (by omega) (by omega) (by omega) ⟨by omega, by omega⟩ (by rw [HW4.out]; exact cell_new1 _ _ _) (fun k hk => by
          have hx := ((HO3.out.below b34).at1 (show (idL n).length = n by simp [idL]) (by omega)).1 k hk
          rw [show (idL n).getD k 0 = ((k : Nat) : Int) from by simp [idL, hk]] at hx
          exact hx)
        have hI0 : LnI w xs bb w.heap.size (w.heap.size + 1) n w4.heap.size (.slice A n c) [] (fun _ => False) w4 := ⟨Y, cy, HBX4.out, HOB4.out, fun r hr => ⟨fun e => (by rw [e] at hr; rcases HNB.out with h | h; (rw [h] at hr; cases hr); exact h hr), .inl (HOB4.out.lt r hr).2, fun e => by rw [e] at hr; have := (HOB1.out.lt _ hr).1; omega⟩, HX4.out, HT4.out, (fun _ h => by cases h), HB4.out⟩
        refine wp_rangeFunc_allP (gf := 139) (lb := #[.pointer (some ⟨w3.heap.size, 0, none⟩)]) rfl (fun _ _ => by kernel_rfl) SEQ (Below.refl _ _) (by omega) rfl (fun W l o o' x v h1 h2 h3 => rd_put h1 h2 h3)
          (LnI w xs bb w.heap.size (w.heap.size + 1) n w4.heap.size (.slice A n c)) (LnI.abp (by omega) (by omega) (by omega) (by have := HB4.out.size; omega)) hI0 ?a1 ?assign ?body ?done
        case assign =>
          intro l v W K hK
          gi_wp2
          exact hK
        case body =>
          rintro l pre Pt x v W ⟨Yb, cyb, hbx, hob, hnb, htx, hrb, hpre, hbw⟩ hpt hen hmem hsz
          have HBb := Lib.hid hbx
          have HOb := Lib.hid hob
          have HNb := Lib.hid hnb
          have HXb := Lib.hid htx
          have HRB := Lib.hid hrb
          clear hrb
          have HPre := Lib.hid hpre
          have HBw := Lib.hid hbw
          have HRX := Lib.hid hen
          have HPX := Lib.hid (perm_nI.2 hmem)
          clear hbx hob hnb hpre hen
          have y0 := htx.1
          have y1 := htx.2
          clear htx
          gi_wp2_with fail
          refine ⟨trivial, rfl, ?_⟩
          refine (CallsIn.inRound l (callsIn_wide.2 (renamed_any n (.slice A n c) xs (nI x) v W (HR.out.below HBw.out) HP.out HRX.out (by rw [HL.out]; exact HPX.out)))).mono ?_
          rintro e w5 ⟨sl5, rfl, ho5, -, hb5⟩
          obtain ⟨Z, cz, rfl, -, -, -⟩ := ho5.form
          have hrl := rn_len HL.out HPX.out
          have HTR := Lib.hid (rn_tour HP.out (by rw [HL.out]; exact HPX.out : PermP xs.length (nI x)))
          have HTB := Lib.hid (pick_tour HP.out pre (by rw [HL.out]; exact HPre.out))
          rw [hrl] at ho5 ⊢
          have HRL := Lib.hid hrl
          clear hrl
          have b56 := below_alloc1 w5 (.cells #[.int .i64 n, .slice Z n cz] 25)
          have B6 := Lib.hid (Below.then hb5 b56)
          have HU6 := Lib.hid (TBox.new w5 n (.slice Z n cz) 25)
          have HOU6 := Lib.hid (ho5.below b56)
          have hu6 : w5.heap.size < (w5.alloc (.cells #[.int .i64 n, .slice Z n cz] 25)).heap.size := by simp
          have hw5 := hb5.size
          clear b56 ho5 hb5 y0 y1
          gi_wp2_with fail
          generalize w5.alloc (.cells #[.int .i64 n, .slice Z n cz] 25) = w6 at *
          have HB6 := Lib.hid (HBb.out.below B6.out)
          have HOB6 := Lib.hid (HOb.out.below B6.out)
          have k1 := quiet_below (w := w6) (fun W' hW => code_any n (.slice Z n cz) (rnL xs (nI x)) W' (HOU6.out.rd.below hW) HTR.out h6n)
          have k2 := quiet_below (w := w6) (fun W' hW => code_any n (.slice Yb n cyb) (pickL xs pre xs) W' (HOB6.out.rd.below hW) HTB.out h6n)
          have z0 := cell_regrown HU6.out.1
          have z1 := cell_regrown HU6.out.2
          have z2 := cell_regrown HB6.out.1.1
          have z3 := cell_regrown HB6.out.1.2
          refine round_region_below (noDefer_spec (by kernel_rfl)) (fun ⟨_, _, h⟩ => h) (by kernel_rfl) (by kernel_rfl) ?_
          repeat (go_big_quiet_step (first | (with_reducible exact k1 _ _) | (with_reducible exact k2 _ _)))
          refine wpQuiet_nil ?_
          intro wq hbq
          clear k1 k2 z0 z1 z2 z3
          have HBq := Lib.hid (HB6.out.below hbq)
          have HOBq := Lib.hid (HOB6.out.below hbq)
          have HUq := Lib.hid (HU6.out.below hbq)
          have HOUq := Lib.hid (HOU6.out.below hbq)
          have Bq := Lib.hid (Below.then B6.out hbq)
          have HXq := Lib.hid (HXb.out.below Bq.out)
          have HRBq := Lib.hid (HRB.out.below Bq.out)
          have BWq := Lib.hid (Below.then HBw.out Bq.out)
          have hsq := hbq.size
          have HPS := Lib.hid (pick_snoc xs pre x xs)
          have HPRE : Hid (∀ ns ∈ pre ++ [x], ns ∈ ordL n) := fun ns h => by
            rw [List.mem_append, List.mem_singleton] at h
            rcases h with h | rfl
            · exact HPre.out ns h
            · exact hmem
          clear hbq
          by_cases hlt : codeN (rnL xs (nI x)) < codeN (pickL xs pre xs)
          · have hd : decide (codeN (rnL xs (nI x)) < codeN (pickL xs pre xs)) = true := decide_eq_true hlt
            rw [if_pos hlt] at HPS
            have x0 := HUq.out.1
            have x1 := HUq.out.2
            have v0 := HBq.out.1.1
            have v1 := HBq.out.1.2
            have f0 := HBq.out.2 0
            have f1 := HBq.out.2 1
            gi_wp2
            have g1 := setCell_grown wq ⟨bb, 0, none⟩ (.int .i64 n)
            have g2 := setCell_grown (wq.setCell ⟨bb, 0, none⟩ (.int .i64 n)) ⟨bb, 1, none⟩ (.slice Z n cz)
            have hblk : ∀ r, (Value.slice Z n cz).ownBlock = some r → W.heap.size ≤ r ∧ r < wq.heap.size := fun r hr => ⟨(HOUq.out.lt r hr).1, (HOUq.out.lt r hr).2⟩
            have hne : (Value.slice Z n cz).ownBlock = none ∨ (Value.slice Z n cz).ownBlock ≠ some bb := own_ne (fun k hk => (hblk k hk).1) (by omega)
            refine ⟨((grown_below Bq.out (some bb)).trans g1).trans g2, fun r => (Value.slice Z n cz).ownBlock = some r, ⟨Z, cz, HBq.out.set01 n _, ?_, fun r hr => ⟨fun e => (by have := (hblk r hr).1; omega), .inr hr, fun e => (by have := (hblk r hr).1; omega)⟩, (HXq.out.kept g1 (fun e => by injection e with e; have e : w.heap.size = bb := e; omega)).kept g2 (fun e => by injection e with e; have e : w.heap.size = bb := e; omega), (HRBq.out.kept g1 (fun e => by injection e with e; have e : w.heap.size + 1 = bb := e; omega)).kept g2 (fun e => by injection e with e; have e : w.heap.size + 1 = bb := e; omega), HPRE.out, (BWq.out.setCell (p := ⟨bb, 0, none⟩) (by show w.heap.size ≤ bb; omega) _).setCell (p := ⟨bb, 1, none⟩) (by show w.heap.size ≤ bb; omega) _⟩, fun r hr => ⟨by simpa using (hblk r hr).2, .inr (hblk r hr).1⟩⟩
            rw [HPS.out]
            exact ((HOUq.out.mono HBw.out.size).kept g1 hne).kept g2 hne
          · have hd : decide (codeN (rnL xs (nI x)) < codeN (pickL xs pre xs)) = false := decide_eq_false hlt
            rw [if_neg hlt] at HPS
            gi_wp2
            exact ⟨grown_below Bq.out _, Pt, ⟨Yb, cyb, HBq.out, by rw [HPS.out]; exact HOBq.out, HNb.out, HXq.out, HRBq.out, HPRE.out, BWq.out⟩, fun r hr => ⟨Nat.lt_of_lt_of_le (hpt r hr).1 Bq.out.size, .inl hr⟩⟩
        case done =>
          rintro D Pt W hD ⟨Yb, cyb, hbx, hob, hnb, htx, hrb, hpre, hbw⟩ hK
          have x0 := hbx.1.1
          have x1 := hbx.1.2
          have v0 := hrb.1.1
          have v1 := hrb.1.2
          have f0 := hrb.2 0
          have f1 := hrb.2 1
          have HX := Lib.hid (hrb.set01 n (.slice Yb n cyb))
          have g1 := setCell_grown W ⟨w.heap.size + 1, 0, none⟩ (.int .i64 n)
          have g2 := setCell_grown (W.setCell ⟨w.heap.size + 1, 0, none⟩ (.int .i64 n)) ⟨w.heap.size + 1, 1, none⟩ (.slice Yb n cyb)
          have hD2 := World.block_lt_of_cell? _ _ HT4.out.1.1
          have HKD2 : Hid (((W.setCell ⟨w.heap.size + 1, 0, none⟩ (.int .i64 n)).setCell ⟨w.heap.size + 1, 1, none⟩ (.slice Yb n cyb)).heap[D]? = some (.deferred (some []))) := by
            unfold Hid
            have hDW := (Array.getElem?_eq_some_iff.1 hK).1
            have hne : some D ≠ some (w.heap.size + 1) := fun e => by injection e with e; have : w.heap.size + 1 < w4.heap.size := hD2; omega
            exact ((g2.block D (by simp; exact hDW) hne).trans (g1.block D hDW hne)).trans hK
          have hnr : (Value.slice Yb n cyb).ownBlock = none ∨ (Value.slice Yb n cyb).ownBlock ≠ some (w.heap.size + 1) := by
            rcases e : (Value.slice Yb n cyb).ownBlock with _ | k
            · exact .inl rfl
            · exact .inr (fun e2 => by injection e2 with e2; exact (hnb k e).2.2 e2)
          have HO2 := Lib.hid ((hob.kept g1 hnr).kept g2 hnr)
          have HB2' := Lib.hid ((hbw.setCell (p := ⟨w.heap.size + 1, 0, none⟩) (show w.heap.size ≤ w.heap.size + 1 by omega) (.int .i64 n)).setCell (p := ⟨w.heap.size + 1, 1, none⟩) (show w.heap.size ≤ w.heap.size + 1 by omega) (.slice Yb n cyb))
          clear hbx hob hnb hbw hK hpre hrb htx g1 g2 hnr
          go_wp2
          have HBF := Lib.hid (HB2'.out.trans (belowK_b (w := w) (Nat.le_refl _) ((W.setCell ⟨w.heap.size + 1, 0, none⟩ (.int .i64 n)).setCell ⟨w.heap.size + 1, 1, none⟩ (.slice Yb n cyb)) D _ (.deferred none) (by have := HB4.out.size; omega) HKD2.out rfl rfl))
          have HOF := Lib.hid (own_put HKD2.out rfl HO2.out : Own (((W.setCell ⟨w.heap.size + 1, 0, none⟩ (.int .i64 n)).setCell ⟨w.heap.size + 1, 1, none⟩ (.slice Yb n cyb)).putObj D (.deferred none)) _ _ _)
          have r0 := (KpC.of_put (cb := w.heap.size) (.deferred none) HKD2.out rfl).cell (p := ⟨w.heap.size + 1, 0, none⟩) (by show w.heap.size + 1 ≠ w.heap.size; omega) HX.out.1.1
          have r1 := (KpC.of_put (cb := w.heap.size) (.deferred none) HKD2.out rfl).cell (p := ⟨w.heap.size + 1, 1, none⟩) (by show w.heap.size + 1 ≠ w.heap.size; omega) HX.out.1.2
          refine ⟨by simp, .inl ⟨_, _, rfl, run_takeDeferred HKD2.out, ?_⟩⟩
          refine ⟨.tuple #[.agg #[.int .i64 n, .slice Yb n cyb], .bool true], by simp only [results, Try.results108]; simp [go_sem, r0, r1], .slice Yb n cyb, by rw [HE.out.1], ?_, HBF.out⟩
          rw [HE.out.2]
          exact HOF.out
    · have q6 : symB6 s xs = false := by simp [symB6, h6]
      have hE := ln_no q6
      rw [hE.1, hE.2, q6]
      clear hE q6 HID hsl
      have h7 : 7 ≤ s := by omega
      have h7b : decide (6 < s) = true := decide_eq_true (by omega)
      go_enter Try.func108, Try.ntmps108
      go_wp2_with fail
      have b0 := (below_alloc1 w (.cells #[.int .i64 s, .slice A xs.length c] 25)).alloc (by simp) (.cells #[.int .i64 0, .slice none 0 0] 25)
      have x0 := (TBox.new w s (.slice A xs.length c) 25).below (below_alloc1 _ (.cells #[.int .i64 0, .slice none 0 0] 25))
      have t0 := BoxF.new (w.alloc (.cells #[.int .i64 s, .slice A xs.length c] 25)) 0 (.slice none 0 0) 25
      simp only [World.size_alloc] at t0
      generalize (w.alloc (.cells #[.int .i64 s, .slice A xs.length c] 25)).alloc (.cells #[.int .i64 0, .slice none 0 0] 25) = w0 at *
      have HX0 := Lib.hid x0
      have HB0 := Lib.hid b0
      have HT0 := Lib.hid t0
      clear x0 b0 t0
      have y0_0 := HX0.out.1
      have y1_0 := HX0.out.2
      go_wp2_with fail
      refine (implTourOk s _ xs _ (HR.out.below HB0.out)).mono ?_
      rintro e w1 ⟨rfl, hb⟩
      have HX1 := Lib.hid (HX0.out.below hb)
      have HT1 := Lib.hid (HT0.out.below hb)
      have HB1 := Lib.hid (Below.then HB0.out hb)
      clear hb HX0 HT0 HB0 y0_0 y1_0
      have y0_1 := HX1.out.1
      have y1_1 := HX1.out.2
      rw [q0]
      have v0 := HT1.out.1.1
      have v1 := HT1.out.1.2
      have f0 := HT1.out.2 0
      have f1 := HT1.out.2 1
      have HBx := Lib.hid ((HB1.out.setCell (p := ⟨w.heap.size + 1, 0, none⟩) (by simp) (.int .i64 0)).setCell (p := ⟨w.heap.size + 1, 1, none⟩) (by simp) (.slice none 0 0))
      have R0 : Hid (((w1.setCell ⟨w.heap.size + 1, 0, none⟩ (.int .i64 0)).setCell ⟨w.heap.size + 1, 1, none⟩ (.slice none 0 0)).cell? ⟨w.heap.size + 1, 0, none⟩ = some (.int .i64 0)) := (World.cell?_setCell_other _ _ _ _ (by simp)).trans (World.cell?_setCell_same _ _ _ v0)
      have R1 : Hid (((w1.setCell ⟨w.heap.size + 1, 0, none⟩ (.int .i64 0)).setCell ⟨w.heap.size + 1, 1, none⟩ (.slice none 0 0)).cell? ⟨w.heap.size + 1, 1, none⟩ = some (.slice none 0 0)) := World.cell?_setCell_same _ _ _ ((World.cell?_setCell_other _ _ _ _ (by simp)).trans v1)
      go_wp2
      have r0 := R0.out
      have r1 := R1.out
      refine bodyPost_ret (v := .tuple #[.agg #[.int .i64 0, .slice none 0 0], .bool false]) (by simp only [results, Try.results108]; simp [go_sem, r0, r1]) rfl ⟨_, rfl, Own.nil_ _ _, HBx.out⟩
end Go.Proofs.Ytkhjdijdcjgpfaa

namespace Go.Proofs.Ytkhjdijdcjgpfaa
open Go.RowKit Go.Sort
set_option maxRecDepth 100000
set_option maxHeartbeats 4000000 in
theorem l02Rename_any (s : Int) (sl : Value) (xs ns : List Int) (nv : Value) (w : World) (h : Rd w sl xs) (hp : tourP s xs) (h2 : Rd w nv ns) (hP : PermP xs.length ns) :
    Calls Try.prog 112 #[.agg #[.int .i64 s, sl], nv] w fun e w' => ∃ sl', e = .returned (.agg #[.int .i64 s, sl']) ∧ Own w' w.heap.size sl' (rnL xs ns) ∧ rnF xs ns xs.length (rnL xs ns) xs.length 0 ∧ Below w.heap.size w w' := by
  obtain ⟨i0, hi, hz0, hz1, hz2⟩ := info_parts i64_info
  obtain ⟨g, off, c, rfl, hm, hg, hx⟩ := tour_cells h hp
  unfold maxLen at hm
  have hs := hp.1
  have hsl := hp.2.1
  have HX := Lib.hid hx
  have HW := Lib.hid (fun j hj => (tour_wins hp (a := j) hj).2.2)
  obtain ⟨B, d, rfl, hdl, hdm, hdc⟩ := h2
  rw [hP.1] at hdl hdc ⊢
  obtain ⟨gn, on, rfl, hgn, hnx⟩ := hdc (by omega)
  unfold maxLen at hdm
  have HNX := Lib.hid hnx
  clear hp h hx hdc hnx
  generalize hn : xs.length = n at *
  obtain rfl : s = n := by omega
  have HN := Lib.hid hn
  have HPP := Lib.hid hP
  clear hn hP
  go_enter Try.func112, Try.ntmps112
  go_wp2_with fail
  have b0 := (below_alloc1 w (.cells #[.int .i64 n, .slice (some ⟨g, off, none⟩) n c] 25)).alloc (by simp) (.cells #[.int .i64 0, .slice none 0 0] 25)
  have x0 := (TBox.new w n (.slice (some ⟨g, off, none⟩) n c) 25).below (below_alloc1 _ (.cells #[.int .i64 0, .slice none 0 0] 25))
  have t0 := BoxF.new (w.alloc (.cells #[.int .i64 n, .slice (some ⟨g, off, none⟩) n c] 25)) 0 (.slice none 0 0) 25
  simp only [World.size_alloc] at t0
  generalize (w.alloc (.cells #[.int .i64 n, .slice (some ⟨g, off, none⟩) n c] 25)).alloc (.cells #[.int .i64 0, .slice none 0 0] 25) = w0 at *
  have HX0 := Lib.hid x0
  have HB0 := Lib.hid b0
  have HT0 := Lib.hid t0
  clear x0 b0 t0
  have y0_0 := HX0.out.1
  have y1_0 := HX0.out.2
  have hgt0 : w.heap.size + 1 < w0.heap.size := HT0.out.gt
  have bA := below_alloc1 w0 (.cells #[.int .i64 0, .slice none 0 0] 25)
  have hXA := HX0.out.below bA
  have hTA := HT0.out.below bA
  have ya0 := hXA.1
  have ya1 := hXA.2
  have hUA := BoxF.new w0 0 (.slice none 0 0) 25
  have BA : Below w.heap.size w (w0.alloc (.cells #[.int .i64 0, .slice none 0 0] 25)).drew := (let q := Below.then HB0.out bA; ⟨q.os, q.tape, q.output, q.size, q.block⟩)
  have B0d : Below w.heap.size w w0.drew := ⟨HB0.out.os, HB0.out.tape, HB0.out.output, HB0.out.size, HB0.out.block⟩
  -- the row made first, or the box laid first
  obtain ⟨W1, hrun1, r1, gr1⟩ := run_make_full (P := Try.prog) w0.drew w0.heap.size 23 3 i0 (.int .i64 0) 1 Try.underlying23 hi hz0 hz1 .i64 .i64 n (by rw [hz2]; omega) (by unfold maxLen; omega) (Nat.le_refl _)
  obtain ⟨W2, hrun2, r2, gr2⟩ := run_make_full (P := Try.prog) (w0.alloc (.cells #[.int .i64 0, .slice none 0 0] 25)).drew w0.heap.size 23 3 i0 (.int .i64 0) 1 Try.underlying23 hi hz0 hz1 .i64 .i64 n (by rw [hz2]; omega) (by unfold maxLen; omega) (show w0.heap.size ≤ (w0.alloc (.cells #[.int .i64 0, .slice none 0 0] 25)).heap.size by simp)
  have X1 := (show TBox w0.drew w.heap.size n (.slice (some ⟨g, off, none⟩) n c) from HX0.out).kept gr1 (by simp)
  have T1 := Lib.hid ((show BoxF w0.drew (w.heap.size + 1) 0 (.slice none 0 0) from HT0.out).kept gr1 (by simp))
  have B1 := Lib.hid (Below.grown B0d gr1 B0d.size (by simp))
  have X2 := (show TBox (w0.alloc (.cells #[.int .i64 0, .slice none 0 0] 25)).drew w.heap.size n (.slice (some ⟨g, off, none⟩) n c) from hXA).kept gr2 (by simp)
  have T2 := Lib.hid ((show BoxF (w0.alloc (.cells #[.int .i64 0, .slice none 0 0] 25)).drew (w.heap.size + 1) 0 (.slice none 0 0) from hTA).kept gr2 (by simp))
  have U2 := (show BoxF (w0.alloc (.cells #[.int .i64 0, .slice none 0 0] 25)).drew w0.heap.size 0 (.slice none 0 0) from hUA).kept gr2 (by simp)
  have B2 := Lib.hid (Below.grown BA gr2 BA.size (by simp))
  rw [ints_made'] at r1 r2
  have O1 : Hid (Own W1 w0.heap.size (.slice (some ⟨w0.heap.size, 0, none⟩) n n) (List.replicate n 0)) := by unfold Hid Own; rw [List.length_replicate]; exact r1
  have O2' : Own W2 w0.heap.size (.slice (some ⟨(w0.alloc (.cells #[.int .i64 0, .slice none 0 0] 25)).heap.size, 0, none⟩) n n) (List.replicate n 0) := by unfold Own; rw [List.length_replicate]; exact r2
  simp only [World.size_alloc] at O2'
  have O2 := Lib.hid O2'
  have hu0 := U2.1.1
  have hu1 := U2.1.2
  have hf0 := U2.2 0
  have hf1 := U2.2 1
  have q10 := X1.1
  have q11 := X1.2
  have q20 := X2.1
  have q21 := X2.2
  have z1 := X1.below (below_alloc1 W1 (.cells #[.int .i64 0, .slice none 0 0] 25))
  have q30 := z1.1
  have q31 := z1.2
  have z2 := X1.below (below_alloc1 W1 (.cells #[.int .i64 n, .slice (some ⟨w0.heap.size, 0, none⟩) n n] 25))
  have q40 := z2.1
  have q41 := z2.2
  have z3 := (X2.kept (setCell_grown _ ⟨w0.heap.size, 0, none⟩ (.int .i64 n)) (by simp; omega)).kept (setCell_grown _ ⟨w0.heap.size, 1, none⟩ (.slice (some ⟨w0.heap.size + 1, 0, none⟩) n n)) (by simp; omega)
  have q50 := z3.1
  have q51 := z3.2
  have hs1 := gr1.size
  have Hs1 : w0.heap.size < W1.heap.size := (World.ownsRow.lt r1 w0.heap.size rfl).2
  clear O2' bA hXA hTA hUA BA B0d r1 r2 gr1 gr2 X1 X2 z1 z2 z3
  go_region_held3 (fun W => W.cell? ⟨w.heap.size, 0, none⟩ = some (.int .i64 n) ∧ W.cell? ⟨w.heap.size, 1, none⟩ = some (.slice (some ⟨g, off, none⟩) n c))
    (first | exact ⟨y0_0, y1_0⟩ | exact ⟨ya0, ya1⟩ | exact ⟨q10, q11⟩ | exact ⟨q20, q21⟩ | exact ⟨q30, q31⟩ | exact ⟨q40, q41⟩ | exact ⟨q50, q51⟩)
    (first
      | (fail))
  all_goals
    clear hrun1 hrun2 y0_0 y1_0 ya0 ya1 q10 q11 q20 q21
    first
      | (have hck : W1 = W1 := rfl
         have HU := Lib.hid (BoxF.new W1 n (.slice (some ⟨w0.heap.size, 0, none⟩) n n) 25)
         have b2 := below_alloc1 W1 (.cells #[.int .i64 n, .slice (some ⟨w0.heap.size, 0, none⟩) n n] 25)
         have HT := Lib.hid (T1.out.below b2)
         have HO := Lib.hid (O1.out.below b2)
         have HB := Lib.hid (Below.then B1.out b2)
         have HXW := Lib.hid (show TBox _ w.heap.size n (.slice (some ⟨g, off, none⟩) n c) from ⟨q40, q41⟩)
         have hgu : w.heap.size + 1 < W1.heap.size ∧ W1.heap.size ≠ w0.heap.size ∧ w.heap.size + 1 < w0.heap.size := by omega
         clear b2 O1 T1 B1 O2 T2 B2 q30 q31 q40 q41 q50 q51 hu0 hu1 hf0 hf1 U2 Hs1 hs1
         generalize hWW : W1.alloc (.cells #[.int .i64 n, .slice (some ⟨w0.heap.size, 0, none⟩) n n] 25) = W at HU HT HO HB HXW ⊢
         obtain ⟨gu, hgue⟩ : ∃ gu, gu = W1.heap.size := ⟨_, rfl⟩
         rw [← hgue] at HU hgu ⊢
         obtain ⟨gl, hgle⟩ : ∃ gl, gl = w0.heap.size := ⟨_, rfl⟩
         rw [← hgle] at HU HO hgu ⊢
         have hcheck : (Value.pointer (some ⟨gu, 0, none⟩)) = Value.pointer (some ⟨W1.heap.size, 0, none⟩) := by rw [hgue]
         clear hcheck hgle hgue hWW hck hgt0
         clear HX0 HT0 HB0
         skip)
      | (have HU := Lib.hid (U2.set01 n (.slice (some ⟨w0.heap.size + 1, 0, none⟩) n n))
         have HT := Lib.hid ((T2.out.kept (setCell_grown _ ⟨w0.heap.size, 0, none⟩ (.int .i64 n)) (by simp; omega)).kept (setCell_grown _ ⟨w0.heap.size, 1, none⟩ (.slice (some ⟨w0.heap.size + 1, 0, none⟩) n n)) (by simp; omega))
         have HO := Lib.hid ((O2.out.kept (setCell_grown _ ⟨w0.heap.size, 0, none⟩ (.int .i64 n)) (by right; simp [Value.ownBlock])).kept (setCell_grown _ ⟨w0.heap.size, 1, none⟩ (.slice (some ⟨w0.heap.size + 1, 0, none⟩) n n)) (by right; simp [Value.ownBlock]))
         have HB := Lib.hid ((B2.out.setCell (p := ⟨w0.heap.size, 0, none⟩) (show w.heap.size ≤ w0.heap.size by omega) (.int .i64 n)).setCell (p := ⟨w0.heap.size, 1, none⟩) (show w.heap.size ≤ w0.heap.size by omega) (.slice (some ⟨w0.heap.size + 1, 0, none⟩) n n))
         have HXW := Lib.hid (show TBox _ w.heap.size n (.slice (some ⟨g, off, none⟩) n c) from ⟨q50, q51⟩)
         have hgu : w.heap.size + 1 < w0.heap.size ∧ w0.heap.size ≠ w0.heap.size + 1 ∧ w.heap.size + 1 < w0.heap.size + 1 := by omega
         clear O1 T1 B1 O2 T2 B2 q30 q31 q40 q41 q50 q51 hu0 hu1 hf0 hf1 U2 Hs1 hs1
         generalize hWW : ((W2.setCell ⟨w0.heap.size, 0, none⟩ (.int .i64 n)).setCell ⟨w0.heap.size, 1, none⟩ (.slice (some ⟨w0.heap.size + 1, 0, none⟩) n n)) = W at HU HT HO HB HXW ⊢
         obtain ⟨gl, hgle⟩ : ∃ gl, gl = w0.heap.size + 1 := ⟨_, rfl⟩
         rw [← hgle] at HU HO hgu ⊢
         obtain ⟨gu, hgue⟩ : ∃ gu, gu = w0.heap.size := ⟨_, rfl⟩
         rw [← hgue] at HU hgu ⊢
         have HO := Lib.hid (HO.out.mono (show w.heap.size ≤ _ by omega))
         clear hgle hgue hWW hgt0
         clear HX0 HT0 HB0
         skip)
    obtain ⟨hgu1, hgu2, hgu3⟩ := hgu
    have HO := Lib.hid (show Own W w.heap.size (.slice (some ⟨gl, 0, none⟩) n n) (List.replicate n 0) from HO.out.mono (by first | exact Nat.le_refl _ | omega))
    have yw0 := HXW.out.1
    have yw1 := HXW.out.2
    go_wp2
    go_loopw [18] (fun i wr => ∃ (a : Nat) (N : List Int), a ≤ n ∧ i = .int .i64 a ∧ Own wr w.heap.size (.slice (some ⟨gl, 0, none⟩) n n) N ∧ Hid (rnF xs ns n N a 0) ∧ BoxF wr gu n (.slice (some ⟨gl, 0, none⟩) n n) ∧ BoxF wr (w.heap.size + 1) 0 (.slice none 0 0) ∧ TBox wr w.heap.size n (.slice (some ⟨g, off, none⟩) n c) ∧ Below w.heap.size w wr) (fun i _ => n - (intOf i).toNat)
    case atStart => exact ⟨0, _, by omega, rfl, HO.out, rnF_start, HU.out, HT.out, HXW.out, HB.out⟩
    case round =>
      obtain ⟨wa, rfl⟩ : ∃ x, x = wr := ⟨_, rfl⟩
      obtain ⟨a, N, ha, rfl, hown, HP, hu, ht, hx, hb⟩ := hrel
      have HOa := Lib.hid hown
      have HUa := Lib.hid hu
      have HTa := Lib.hid ht
      have HXa := Lib.hid hx
      have HBa := Lib.hid hb
      have y0 := hx.1
      have y1 := hx.2
      clear hown hu ht hx hb HO HU HT HXW HB yw0 yw1
      by_cases hlta : a < n
      · have hxa := (HBa.out.cell (p := ⟨g, off + a, none⟩) hg).trans (HX.out a hlta)
        have h256 := HW.out a hlta
        go_wp2
        go_loopw [26] (fun i wr => ∃ (b : Nat) (N : List Int), b ≤ n ∧ i = .int .i64 b ∧ Own wr w.heap.size (.slice (some ⟨gl, 0, none⟩) n n) N ∧ Hid (rnF xs ns n N a b) ∧ BoxF wr gu n (.slice (some ⟨gl, 0, none⟩) n n) ∧ BoxF wr (w.heap.size + 1) 0 (.slice none 0 0) ∧ TBox wr w.heap.size n (.slice (some ⟨g, off, none⟩) n c) ∧ Below w.heap.size w wr) (fun i _ => n - (intOf i).toNat)
        case atStart => exact ⟨0, N, by omega, rfl, HOa.out, HP, HUa.out, HTa.out, HXa.out, HBa.out⟩
        case round =>
          obtain ⟨b, M, hbn, rfl, hown, HP2, hu, ht, hx, hb⟩ := hrel
          have HO := Lib.hid hown
          have HU := Lib.hid hu
          have HT := Lib.hid ht
          have HX2 := Lib.hid hx
          have HB := Lib.hid hb
          clear hown hu ht hx hb y0 y1 hxa
          by_cases hltb : b < n
          · have hbit := bit_test (winsN xs a) b
            rcases hq : (winsN xs a).testBit b with _ | _
            · rw [hq] at hbit
              have HR := Lib.hid (rnF_no HP2.out hq)
              go_wp2
              go_roundw
              case rel => exact ⟨b + 1, M, by omega, by go_num, HO.out, HR.out, HU.out, HT.out, HX2.out, HB.out⟩
              case measure => simp [intOf]; omega
            · rw [hq] at hbit
              obtain ⟨na, va⟩ := nm_val HPP.out hlta
              obtain ⟨nb, vb⟩ := nm_val HPP.out hltb
              obtain ⟨S, hS, -⟩ := HP2.out.2.1 _ va
              obtain ⟨hSn, hSb, hYES⟩ := rnF_yes HPP.out (by omega) HP2.out hlta hltb hS hq
              have HY := Lib.hid hYES
              have hp8 := pow_le (n := n) (by omega)
              have cna := (HB.out.cell (p := ⟨gn, on + a, none⟩) hgn).trans (HNX.out a hlta)
              have cnb := (HB.out.cell (p := ⟨gn, on + b, none⟩) hgn).trans (HNX.out b hltb)
              rw [na] at cna
              rw [nb] at cnb
              have hMl := HP2.out.1
              have za := (HO.out.at1 hMl (by omega)).1 _ va
              rw [hS] at za
              have hao := add_or (S := S) (a := nmN ns b) (by omega) (by omega) hSb
              have hor := add_shl S (nmN ns b) (by omega) (by omega)
              have hY2 := HY.out
              rw [← hao] at hY2
              have HADD := Lib.hid hor
              clear hao
              have HS := Lib.hid hS
              clear hYES hS hSb na nb
              generalize hA : nmN ns a = A at *
              generalize hBB : nmN ns b = B' at *
              have HA := Lib.hid hA
              have HBB := Lib.hid hBB
              clear hA hBB
              generalize hX : S + 2 ^ B' = X at *
              have HXX := Lib.hid hX
              clear hX
              go_wp2_with fail
              have c1 := cell_regrown HU.out.1.2
              have c2 := cell_regrown za
              have c3 := cell_regrown cna
              have c4 := cell_regrown cnb
              clear za cna cnb hbit
              refine wp_region_below_tail 21 (by kernel_rfl) (by kernel_rfl) ?_
              simp only [List.take_succ_cons, List.take_zero, List.drop_succ_cons, List.drop_zero]
              repeat (go_big_quiet_step (first | (with_reducible fail)))
              refine wpQuiet_nil ?_
              intro wq hbq0
              have hbq := Lib.hid hbq0
              clear hbq0
              clear c1 c2 c3 c4 hor
              have O2 := HO.out.below hbq.out
              obtain ⟨hx2, hf2⟩ := O2.at1 hMl (by omega)
              have za := hx2 A va
              have fa := hf2 A
              have HO3 := Lib.hid (O2.set_ hMl A (X : Int)).1
              have HU3 := Lib.hid ((HU.out.below hbq.out).kept (setCell_grown _ ⟨gl, A, none⟩ (.int .i64 X)) (by simp; omega))
              have HT3 := Lib.hid ((HT.out.below hbq.out).kept (setCell_grown _ ⟨gl, A, none⟩ (.int .i64 X)) (by simp; omega))
              have HX3 := Lib.hid ((HX2.out.below hbq.out).kept (setCell_grown _ ⟨gl, A, none⟩ (.int .i64 X)) (by simp; omega))
              have HB3 := Lib.hid ((Below.then HB.out hbq.out).setCell (p := ⟨gl, A, none⟩) (show w.heap.size ≤ gl by omega) (.int .i64 X))
              clear hx2 hf2 O2 HO HU HT HX2 HB hbq
              go_wp2
              go_roundw
              case rel =>
                first | rw [HADD.out] | skip
                exact ⟨b + 1, M.set A X, by omega, by go_num, HO3.out, hY2, HU3.out, HT3.out, HX3.out, HB3.out⟩
              case measure => simp [intOf]; omega
          · obtain rfl : n = b := by omega
            have HR := Lib.hid (rnF_next HP2.out)
            go_wp2
            go_roundw
            case rel => exact ⟨a + 1, M, by omega, by go_num, HO.out, HR.out, HU.out, HT.out, HX2.out, HB.out⟩
            case measure => simp [intOf]; omega
      · obtain rfl : n = a := by omega
        have HE := Lib.hid (rnL_eq HN.out HPP.out HP.out)
        have u0 := HUa.out.1.1
        have u1 := HUa.out.1.2
        have v0 := HTa.out.1.1
        have v1 := HTa.out.1.2
        have f0 := HTa.out.2 0
        have f1 := HTa.out.2 1
        have hgu4 : gu ≠ w.heap.size + 1 := by omega
        have HOx := Lib.hid ((HOa.out.kept (setCell_grown _ ⟨w.heap.size + 1, 0, none⟩ (.int .i64 n)) (by right; simp [Value.ownBlock]; omega)).kept (setCell_grown _ ⟨w.heap.size + 1, 1, none⟩ (.slice (some ⟨gl, 0, none⟩) n n)) (by right; simp [Value.ownBlock]; omega))
        have HBx := Lib.hid ((HBa.out.setCell (p := ⟨w.heap.size + 1, 0, none⟩) (by simp) (.int .i64 n)).setCell (p := ⟨w.heap.size + 1, 1, none⟩) (by simp) (.slice (some ⟨gl, 0, none⟩) n n))
        have R0 : Hid (((wa.setCell ⟨w.heap.size + 1, 0, none⟩ (.int .i64 n)).setCell ⟨w.heap.size + 1, 1, none⟩ (.slice (some ⟨gl, 0, none⟩) n n)).cell? ⟨w.heap.size + 1, 0, none⟩ = some (.int .i64 n)) := (World.cell?_setCell_other _ _ _ _ (by simp)).trans (World.cell?_setCell_same _ _ _ v0)
        have R1 : Hid (((wa.setCell ⟨w.heap.size + 1, 0, none⟩ (.int .i64 n)).setCell ⟨w.heap.size + 1, 1, none⟩ (.slice (some ⟨gl, 0, none⟩) n n)).cell? ⟨w.heap.size + 1, 1, none⟩ = some (.slice (some ⟨gl, 0, none⟩) n n)) := World.cell?_setCell_same _ _ _ ((World.cell?_setCell_other _ _ _ _ (by simp)).trans v1)
        clear y0 y1
        go_wp2
        have r0 := R0.out
        have r1 := R1.out
        refine bodyPost_ret (v := .agg #[.int .i64 n, .slice (some ⟨gl, 0, none⟩) n n]) (by simp only [results, Try.results112]; simp [go_sem, r0, r1]) rfl ⟨_, rfl, ?_, ?_, HBx.out⟩
        · rw [← HE.out]; exact HOx.out
        · rw [← HE.out]; exact HP.out
end Go.Proofs.Ytkhjdijdcjgpfaa

namespace Go.Proofs.Ytkhjdijdcjgpfaa
open Go.RowKit Go.Sort
set_option maxRecDepth 100000

def turnL (n k : Nat) : List Int := (List.range k).map fun (a : Nat) => ((a : Int) + 1) % n
theorem turnL_succ (n k : Nat) : turnL n (k + 1) = turnL n k ++ [((k : Int) + 1) % n] := by unfold turnL; rw [List.range_succ, List.map_append]; rfl
theorem turnL_len (n k : Nat) : (turnL n k).length = k := by simp [turnL]
theorem turnL_perm {n : Nat} (h1 : 1 ≤ n) (h8 : n ≤ 8) : PermP n (turnL n n) := by
  rcases (by omega : n = 1 ∨ n = 2 ∨ n = 3 ∨ n = 4 ∨ n = 5 ∨ n = 6 ∨ n = 7 ∨ n = 8) with rfl | rfl | rfl | rfl | rfl | rfl | rfl | rfl
  all_goals exact ⟨by decide, by decide, by decide⟩
noncomputable def rotlB (s : Int) (xs : List Int) : Bool := tourB s xs && decide (xs = rnL xs (turnL xs.length xs.length))
end Go.Proofs.Ytkhjdijdcjgpfaa

