/- FnExactLeastName: impl.LeastName. -/
import Derived.Test.YtceeplhkokajhabOrdG
import Derived.Test.YtceeplhkokajhabCode
import Derived.Test.YtceeplhkokajhabCSym
import Derived.Test.YtceeplhkokajhabAppR
import Derived.Deep.RegionHeld3
import Derived.Deep.DeepCutAuto
namespace Go.Proofs.Ytceeplhkokajhab
open Go.RowKit Go.Sort
set_option maxRecDepth 100000
attribute [local go_sem] Oper.semAt_some
noncomputable def lnS (s : Int) (xs : List Int) : Int := if symB6 s xs = true then s else 0
noncomputable def lnL (s : Int) (xs : List Int) : List Int := if symB6 s xs = true then pickL xs (ordL xs.length) xs else []
theorem ln_no {s : Int} {xs : List Int} (h : symB6 s xs = false) : lnS s xs = 0 ∧ lnL s xs = [] := by simp [lnS, lnL, h]
theorem ln_yes {s : Int} {xs : List Int} (h : symB6 s xs = true) : lnS s xs = s ∧ lnL s xs = pickL xs (ordL xs.length) xs := by simp [lnS, lnL, h]
theorem pick_snoc (xs : List Int) (l : List (List Nat)) (ns : List Nat) (L : List Int) : pickL xs (l ++ [ns]) L = if codeN (rnL xs (nI ns)) < codeN (pickL xs l L) then rnL xs (nI ns) else pickL xs l L := by unfold pickL; rw [List.foldl_append]; rfl
theorem pick_tour {s : Int} {xs : List Int} (hp : tourP s xs) (l : List (List Nat)) (hl : ∀ ns ∈ l, ns ∈ ordL xs.length) : tourP s (pickL xs l xs) := by
  rcases (pick_least xs l xs).1 with h | ⟨ns, hns, h⟩
  · rw [h]; exact hp
  · rw [h]; exact rn_tour hp (perm_nI.2 (hl ns hns))
def BoxOT (w0 W : World) (g : Nat) : Prop := BoxF W g 0 (.slice none 0 0) ∧ w0.heap.size ≤ g
theorem BoxOT.below {w0 W W' : World} {g : Nat} (h : BoxOT w0 W g) (hb : Below W.heap.size W W') : BoxOT w0 W' g := ⟨BoxF.below h.1 hb, h.2⟩
theorem BoxOT.new {w0 : World} (W : World) (h : w0.heap.size ≤ W.heap.size) : BoxOT w0 (W.alloc (.cells #[.int .i64 0, .slice none 0 0] 27)) W.heap.size := ⟨BoxF.new W 0 (.slice none 0 0) 27, h⟩
def TrCut (w0 : World) (S : Int) (L : List Int) (p : Value) (wx : World) : Prop :=
  ∃ gB Y cy, p = .pointer (some ⟨gB, 0, none⟩) ∧ BoxF wx gB S (.slice Y L.length cy) ∧ Own wx w0.heap.size (.slice Y L.length cy) L ∧ ((Value.slice Y L.length cy).ownBlock = none ∨ (Value.slice Y L.length cy).ownBlock ≠ some gB) ∧ w0.heap.size ≤ gB ∧ Below w0.heap.size w0 wx
/-- between two rounds: the best tour so far in its box; its row is protected, or old -/
def LnI (w0 : World) (xs : List Int) (bb tb rb n B : Nat) (sl : Value) (done : List (List Nat)) (Pt : Nat → Prop) (W : World) : Prop :=
  ∃ Y cy, BoxF W bb n (.slice Y n cy) ∧ Own W w0.heap.size (.slice Y n cy) (pickL xs done xs) ∧ (∀ r, (Value.slice Y n cy).ownBlock = some r → r ≠ bb ∧ (r < B ∨ Pt r) ∧ r ≠ rb) ∧ TBox W tb n sl ∧ BoxF W rb 0 (.slice none 0 0) ∧ (∀ ns ∈ done, ns ∈ ordL n) ∧ Below w0.heap.size w0 W
theorem LnI.abp {w0 : World} {xs : List Int} {bb tb rb n B : Nat} {sl : Value} (hc : bb < B) (ht : tb < B) (hr0 : rb < B) (hw : w0.heap.size ≤ B) : AbP B (LnI w0 xs bb tb rb n B sl) := by
  intro s Pt W W' row h hg hr
  obtain ⟨Y, cy, h1, h2, h3, h4, h7, h5, h6⟩ := h
  refine ⟨Y, cy, h1.kept hg (fun e => by have := (hr _ e.symm).1; omega), h2.kept hg ?_, h3, h4.kept hg (fun e => by have := (hr _ e.symm).1; omega), h7.kept hg (fun e => by have := (hr _ e.symm).1; omega), h5, h6.grown hg h6.size (fun k e => Nat.le_trans hw (hr k e).1)⟩
  rcases e : (Value.slice Y n cy).ownBlock with _ | k
  · exact .inl rfl
  · right
    intro e2
    obtain ⟨q1, q2⟩ := hr k e2.symm
    rcases (h3 k e).2.1 with h | h
    · omega
    · exact q2 h
theorem own_put {W : World} {D base : Nat} {o o' : Obj} {v : Value} {xs : List Int} (hD : W.heap[D]? = some o) (ho : o.isCells = false) (h : Own W base v xs) : Own (W.putObj D o') base v xs := by
  refine ⟨h.1, ?_⟩
  rcases h.2 with h0 | ⟨g, cap, cur, hv, hg, hh, r⟩
  · exact .inl h0
  · exact .inr ⟨g, cap, cur, hv, hg, (KpC.of_put (cb := g + 1) o' hD ho).same _ _ (by omega) hh rfl, r⟩
theorem indices_ex (n : Nat) (hn : n ≤ 1000) (w : World) (h1 : 1 ≤ n) :
    Calls Try.prog 45 #[.int .i64 n] w fun e w' => ∃ g, e = .returned (.slice (some ⟨g, 0, none⟩) n n) ∧ Own w' w.heap.size (.slice (some ⟨g, 0, none⟩) n n) (idL n) ∧ Below w.heap.size w w' :=
  (indices_any n hn w h1).mono fun _ _ ⟨h1, h2, h3⟩ => ⟨_, h1, h2, h3⟩
set_option maxHeartbeats 8000000 in
theorem implLeast (s : Int) (sl : Value) (xs : List Int) (w : World) (h : Rd w sl xs) :
    Calls Try.prog 16 #[.agg #[.int .i64 s, sl]] w fun e w' => ∃ sl', e = .returned (.tuple #[.agg #[.int .i64 (lnS s xs), sl'], .bool (symB6 s xs)]) ∧ Own w' w.heap.size sl' (lnL s xs) ∧ Below w.heap.size w w' := by
  have HR := Lib.hid h
  obtain ⟨A, c, rfl, -, hcm, -⟩ := h
  unfold maxLen at hcm
  rcases q0 : tourB s xs with _ | _
  · have hE := ln_no (s := s) (xs := xs) (by simp [symB6, q0])
    rw [hE.1, hE.2, show symB6 s xs = false by simp [symB6, q0]]
    clear hE
    go_enter Try.func16, Try.ntmps16
    go_wp2_with fail
    have b0 := (below_alloc1 w (.cells #[.int .i64 s, .slice A xs.length c] 27)).alloc (by simp) (.cells #[.int .i64 0, .slice none 0 0] 27)
    have x0 := (TBox.new w s (.slice A xs.length c) 27).below (below_alloc1 _ (.cells #[.int .i64 0, .slice none 0 0] 27))
    have t0 := BoxF.new (w.alloc (.cells #[.int .i64 s, .slice A xs.length c] 27)) 0 (.slice none 0 0) 27
    simp only [World.size_alloc] at t0
    generalize (w.alloc (.cells #[.int .i64 s, .slice A xs.length c] 27)).alloc (.cells #[.int .i64 0, .slice none 0 0] 27) = w0 at *
    have HX0 := Lib.hid x0
    have HB0 := Lib.hid b0
    have HT0 := Lib.hid t0
    clear x0 b0 t0
    have y0_0 := HX0.out.1
    have y1_0 := HX0.out.2
    go_wp2_with fail
    refine (implTourOk s _ xs _ (HR.out.below HB0.out)).mono ?_
    rintro e w1 ⟨rfl, hb⟩
    have HX1 := Lib.hid (HX0.out.below hb)
    have HT1 := Lib.hid (HT0.out.below hb)
    have HB1 := Lib.hid (Below.then HB0.out hb)
    clear hb HX0 HT0 HB0 y0_0 y1_0
    have y0_1 := HX1.out.1
    have y1_1 := HX1.out.2
    rw [q0]
    have v0 := HT1.out.1.1
    have v1 := HT1.out.1.2
    have f0 := HT1.out.2 0
    have f1 := HT1.out.2 1
    have HBx := Lib.hid ((HB1.out.setCell (p := ⟨w.heap.size + 1, 0, none⟩) (by simp) (.int .i64 0)).setCell (p := ⟨w.heap.size + 1, 1, none⟩) (by simp) (.slice none 0 0))
    have R0 : Hid (((w1.setCell ⟨w.heap.size + 1, 0, none⟩ (.int .i64 0)).setCell ⟨w.heap.size + 1, 1, none⟩ (.slice none 0 0)).cell? ⟨w.heap.size + 1, 0, none⟩ = some (.int .i64 0)) := (World.cell?_setCell_other _ _ _ _ (by simp)).trans (World.cell?_setCell_same _ _ _ v0)
    have R1 : Hid (((w1.setCell ⟨w.heap.size + 1, 0, none⟩ (.int .i64 0)).setCell ⟨w.heap.size + 1, 1, none⟩ (.slice none 0 0)).cell? ⟨w.heap.size + 1, 1, none⟩ = some (.slice none 0 0)) := World.cell?_setCell_same _ _ _ ((World.cell?_setCell_other _ _ _ _ (by simp)).trans v1)
    go_wp2
    have r0 := R0.out
    have r1 := R1.out
    refine bodyPost_ret (v := .tuple #[.agg #[.int .i64 0, .slice none 0 0], .bool false]) (by simp only [results, Try.results16]; simp [go_sem, r0, r1]) rfl ⟨_, rfl, Own.nil_ _ _, HBx.out⟩
  · have hp := tourB_true.1 q0
    have hs := hp.1
    have hsl := hp.2.1
    have HP := Lib.hid hp
    have HID := Lib.hid (rn_id hp)
    clear hp
    by_cases h6 : s ≤ 6
    · have q6 : symB6 s xs = true := by simp [symB6, q0, h6]
      have HE := Lib.hid (ln_yes q6)
      rw [q6]
      clear q6
      generalize hln : xs.length = n at *
      obtain rfl : s = (n : Int) := by omega
      have HL := Lib.hid hln
      clear hln hsl
      have h6n : n ≤ 6 := by omega
      have h6b : decide ((6 : Int) < (n : Int)) = false := decide_eq_false (by omega)
      clear h6
      refine calls_of_wpM Try.func16 rfl ?_
      simp only [Try.ntmps16, List.size_toArray, List.length_cons, List.length_nil, Nat.reduceAdd, Nat.reduceSub, Array.replicate_succ, Array.replicate_zero, List.push_toArray, List.append_toArray, List.nil_append, List.cons_append]
      go_wp2_with fail
      have b0 := (below_alloc1 w (.cells #[.int .i64 n, .slice A n c] 27)).alloc (by simp) (.cells #[.int .i64 0, .slice none 0 0] 27)
      have x0 := (TBox.new w n (.slice A n c) 27).below (below_alloc1 _ (.cells #[.int .i64 0, .slice none 0 0] 27))
      have t0 := BoxF.new (w.alloc (.cells #[.int .i64 n, .slice A n c] 27)) 0 (.slice none 0 0) 27
      simp only [World.size_alloc] at t0
      generalize (w.alloc (.cells #[.int .i64 n, .slice A n c] 27)).alloc (.cells #[.int .i64 0, .slice none 0 0] 27) = w0 at *
      have HX0 := Lib.hid x0
      have HB0 := Lib.hid b0
      have HT0 := Lib.hid t0
      clear x0 b0 t0
      have y0_0 := HX0.out.1
      have y1_0 := HX0.out.2
      go_wp2_with fail
      refine (implTourOk n _ xs _ (HR.out.below HB0.out)).mono ?_
      rintro e w1 ⟨rfl, hb⟩
      have HX1 := Lib.hid (HX0.out.below hb)
      have HT1 := Lib.hid (HT0.out.below hb)
      have HB1 := Lib.hid (Below.then HB0.out hb)
      clear hb HX0 HT0 HB0 y0_0 y1_0
      have y0_1 := HX1.out.1
      have y1_1 := HX1.out.2
      rw [q0]
      go_wp2_with fail
      have HKP : Hid (∀ W, Below w1.heap.size w1 W → W.cell? ⟨w.heap.size, 0, none⟩ = some (.int .i64 n) ∧ W.cell? ⟨w.heap.size, 1, none⟩ = some (.slice A n c)) := fun W hb => ⟨(HX1.out.below hb).1, (HX1.out.below hb).2⟩
      have BB0 : Below w1.heap.size w1 w1.drew := (Below.refl _ _).drew
      have BB0B : Below w1.heap.size w1 (w1.drew.alloc (.cells #[.int .i64 0, .slice none 0 0] 27)) := BB0.alloc BB0.size _
      clear y0_1 y1_1
      go_cut [4] from 7 to 35 (fun s4 wx => TrCut w1 n (rnL xs (idL n)) s4 wx)
      case first =>
        go_region_held3 (fun W => W.cell? ⟨w.heap.size, 0, none⟩ = some (.int .i64 n) ∧ W.cell? ⟨w.heap.size, 1, none⟩ = some (.slice A n c))
          (first | exact HKP.out _ BB0 | exact HKP.out _ BB0B | exact HKP.out _ BB1 | exact HKP.out _ (BB1.alloc BB1.size _) | exact HKP.out _ BB2 | exact HKP.out _ (BB2.alloc BB2.size _) | exact HKP.out _ BBS)
          (first
            | (go_at_call 45; refine (indices_ex n (by omega) w1.drew (by omega)).mono ?_; rintro e v1 ⟨gi, rfl, oo1, hb⟩; have BB1 := Below.then BB0 hb; (try have HX1' := HX0'.below hb); clear hb)
            | (go_at_call 45; refine (indices_ex n (by omega) (w1.drew.alloc (.cells #[.int .i64 0, .slice none 0 0] 27)) (by omega)).mono ?_; rintro e v1 ⟨gi, rfl, oo1, hb⟩; have BB1 := Below.then BB0B hb; have HX1' := (show BoxOT w1 (w1.drew.alloc (.cells #[.int .i64 0, .slice none 0 0] 27)) w1.heap.size from BoxOT.new w1.drew BB0.size).below hb; clear hb)
            | (go_at_call 47; refine (renamed_any n (.slice A n c) xs (idL n) _ v1 (HR.out.below (Below.then HB1.out BB1)) HP.out oo1.rd (by rw [HL.out]; exact id_perm n)).mono ?_; rintro e v2 ⟨sl2, rfl, hoy, -, hb⟩; obtain ⟨Z2, cz2, rfl, -, -, -⟩ := hoy.form; have BB2 := Below.then BB1 hb; (try have HX2' := HX1'.below hb); have OY := hoy.mono BB1.size; (try have NB := own_ne (fun k hk => (hoy.lt k hk).1) HX1'.1.gt); (try have BBS := (BB2.setCell (p := ⟨_, 0, none⟩) HX2'.2 (.int .i64 n)).setCell (p := ⟨_, 1, none⟩) HX2'.2 (.slice Z2 (rnL xs (idL n)).length cz2)); (try have v0 := HX2'.1.1.1); (try have v1 := HX2'.1.1.2); (try have f0 := HX2'.1.2 0); (try have f1 := HX2'.1.2 1); clear hb hoy)
            | (go_at_call 47; refine (renamed_any n (.slice A n c) xs (idL n) _ (v1.alloc (.cells #[.int .i64 0, .slice none 0 0] 27)) (HR.out.below (Below.then HB1.out (BB1.alloc BB1.size _))) HP.out (Own.alloc oo1 _).rd (by rw [HL.out]; exact id_perm n)).mono ?_; rintro e v2 ⟨sl2, rfl, hoy, -, hb⟩; obtain ⟨Z2, cz2, rfl, -, -, -⟩ := hoy.form; have BB2 := Below.then (BB1.alloc BB1.size _) hb; have HX2' := (BoxOT.new (w0 := w1) v1 BB1.size).below hb; have OY := hoy.mono (BB1.alloc BB1.size (.cells #[.int .i64 0, .slice none 0 0] 27)).size; have NB := own_ne (fun k hk => (hoy.lt k hk).1) (BoxOT.new (w0 := w1) v1 BB1.size).1.gt; (try have BBS := (BB2.setCell (p := ⟨_, 0, none⟩) HX2'.2 (.int .i64 n)).setCell (p := ⟨_, 1, none⟩) HX2'.2 (.slice Z2 (rnL xs (idL n)).length cz2)); (try have v0 := HX2'.1.1.1); (try have v1 := HX2'.1.1.2); (try have f0 := HX2'.1.2 0); (try have f1 := HX2'.1.2 1); clear hb hoy))
        all_goals first
          | (go_wp2_with fail; go_meet; exact ⟨_, _, _, rfl, HX2'.1.set01 n _, (OY.kept (setCell_grown _ _ _) NB).kept (setCell_grown _ _ _) NB, NB, HX2'.2, BBS⟩)
          | (go_wp2_with fail; go_meet; exact ⟨_, _, _, rfl, BoxF.new v2 n _ _, Own.alloc OY _, box_new_of (fun k hk => (OY.lt k hk).2), BB2.size, BB2.alloc BB2.size _⟩)
      case rest =>
        obtain ⟨bb, Y, cy, rfl, hbx, hob, hnb, hbg, hbw⟩ := hcut
        rw [HID.out] at hbx hob hnb
        rw [HL.out] at hbx hob hnb
        have HX2 := Lib.hid (HX1.out.below hbw)
        have HT2 := Lib.hid (HT1.out.below hbw)
        have HB2 := Lib.hid (Below.then HB1.out hbw)
        have HBX := Lib.hid hbx
        have HOB1 := Lib.hid hob
        have HOB := Lib.hid (hob.mono HB1.out.size)
        have HNB := Lib.hid hnb
        have htb := HT1.out.gt
        have hbbw := hbx.gt
        have HW1 := Lib.hid hbw
        clear hbx hob hnb hbw HX1 HB1 HT1 HKP BB0 BB0B HID
        have y0_2 := HX2.out.1
        go_wp2_with fail
        refine (indices_ex n (by omega) wc (by omega)).mono ?_
        rintro e w3 ⟨gi, rfl, ho3, hb3⟩
        have HO3 := Lib.hid ho3
        have HB3 := Lib.hid hb3
        clear ho3 hb3 y0_2
        go_wp2_with fail
        refine (orders_any _ n n w3).mono ?_
        rintro e w4 ⟨rfl, hw4⟩
        have HW4 := Lib.hid hw4
        clear hw4
        go_wp2_with fail
        have s3 := HO3.out.lt gi rfl
        have h4l : w3.heap.size < w4.heap.size := by rw [HW4.out]; simp
        have b34 : Below w3.heap.size w3 w4 := by rw [HW4.out]; exact below_alloc1 _ _
        have b24 := Below.then HB3.out b34
        have HB4 := Lib.hid (Below.then HB2.out b24)
        have HX4 := Lib.hid (HX2.out.below b24)
        have HT4 := Lib.hid (HT2.out.below b24)
        have HBX4 := Lib.hid (HBX.out.below b24)
        have HOB4 := Lib.hid (HOB.out.below b24)
        have hs24 := b24.size
        have SEQ := orders_allP (n := n) (by omega) w3.heap.size gi bb w4 (by omega) (by omega) (by omega) ⟨by omega, by omega⟩ (by rw [HW4.out]; exact cell_new1 _ _ _) (fun k hk => by
          have hx := ((HO3.out.below b34).at1 (show (idL n).length = n by simp [idL]) (by omega)).1 k hk
          rw [show (idL n).getD k 0 = ((k : Nat) : Int) from by simp [idL, hk]] at hx
          exact hx)
        have hI0 : LnI w xs bb w.heap.size (w.heap.size + 1) n w4.heap.size (.slice A n c) [] (fun _ => False) w4 := ⟨Y, cy, HBX4.out, HOB4.out, fun r hr => ⟨fun e => (by rw [e] at hr; rcases HNB.out with h | h; (rw [h] at hr; cases hr); exact h hr), .inl (HOB4.out.lt r hr).2, fun e => by rw [e] at hr; have := (HOB1.out.lt _ hr).1; omega⟩, HX4.out, HT4.out, (fun _ h => by cases h), HB4.out⟩
        refine wp_rangeFunc_allP (gf := 72) (lb := #[.pointer (some ⟨w3.heap.size, 0, none⟩)]) rfl (fun _ _ => by kernel_rfl) SEQ (Below.refl _ _) (by omega) rfl (fun W l o o' x v h1 h2 h3 => rd_put h1 h2 h3)
          (LnI w xs bb w.heap.size (w.heap.size + 1) n w4.heap.size (.slice A n c)) (LnI.abp (by omega) (by omega) (by omega) (by have := HB4.out.size; omega)) hI0 ?a1 ?assign ?body ?done
        case assign =>
          intro l v W K hK
          gi_wp2
          exact hK
        case body =>
          rintro l pre Pt x v W ⟨Yb, cyb, hbx, hob, hnb, htx, hrb, hpre, hbw⟩ hpt hen hmem hsz
          have HBb := Lib.hid hbx
          have HOb := Lib.hid hob
          have HNb := Lib.hid hnb
          have HXb := Lib.hid htx
          have HRB := Lib.hid hrb
          clear hrb
          have HPre := Lib.hid hpre
          have HBw := Lib.hid hbw
          have HRX := Lib.hid hen
          have HPX := Lib.hid (perm_nI.2 hmem)
          clear hbx hob hnb hpre hen
          have y0 := htx.1
          have y1 := htx.2
          clear htx
          gi_wp2_with fail
          refine ⟨trivial, rfl, ?_⟩
          refine (CallsIn.inRound l (callsIn_wide.2 (renamed_any n (.slice A n c) xs (nI x) v W (HR.out.below HBw.out) HP.out HRX.out (by rw [HL.out]; exact HPX.out)))).mono ?_
          rintro e w5 ⟨sl5, rfl, ho5, -, hb5⟩
          obtain ⟨Z, cz, rfl, -, -, -⟩ := ho5.form
          have hrl := rn_len HL.out HPX.out
          have HTR := Lib.hid (rn_tour HP.out (by rw [HL.out]; exact HPX.out : PermP xs.length (nI x)))
          have HTB := Lib.hid (pick_tour HP.out pre (by rw [HL.out]; exact HPre.out))
          rw [hrl] at ho5 ⊢
          have HRL := Lib.hid hrl
          clear hrl
          have b56 := below_alloc1 w5 (.cells #[.int .i64 n, .slice Z n cz] 27)
          have B6 := Lib.hid (Below.then hb5 b56)
          have HU6 := Lib.hid (TBox.new w5 n (.slice Z n cz) 27)
          have HOU6 := Lib.hid (ho5.below b56)
          have hu6 : w5.heap.size < (w5.alloc (.cells #[.int .i64 n, .slice Z n cz] 27)).heap.size := by simp
          have hw5 := hb5.size
          clear b56 ho5 hb5 y0 y1
          gi_wp2_with fail
          generalize w5.alloc (.cells #[.int .i64 n, .slice Z n cz] 27) = w6 at *
          have HB6 := Lib.hid (HBb.out.below B6.out)
          have HOB6 := Lib.hid (HOb.out.below B6.out)
          have k1 := quiet_below (w := w6) (fun W' hW => code_any n (.slice Z n cz) (rnL xs (nI x)) W' (HOU6.out.rd.below hW) HTR.out h6n)
          have k2 := quiet_below (w := w6) (fun W' hW => code_any n (.slice Yb n cyb) (pickL xs pre xs) W' (HOB6.out.rd.below hW) HTB.out h6n)
          have z0 := cell_regrown HU6.out.1
          have z1 := cell_regrown HU6.out.2
          have z2 := cell_regrown HB6.out.1.1
          have z3 := cell_regrown HB6.out.1.2
          refine round_region_below (noDefer_spec (by kernel_rfl)) (fun ⟨_, _, h⟩ => h) (by kernel_rfl) (by kernel_rfl) ?_
          repeat (go_big_quiet_step (first | (with_reducible exact k1 _ _) | (with_reducible exact k2 _ _)))
          refine wpQuiet_nil ?_
          intro wq hbq
          clear k1 k2 z0 z1 z2 z3
          have HBq := Lib.hid (HB6.out.below hbq)
          have HOBq := Lib.hid (HOB6.out.below hbq)
          have HUq := Lib.hid (HU6.out.below hbq)
          have HOUq := Lib.hid (HOU6.out.below hbq)
          have Bq := Lib.hid (Below.then B6.out hbq)
          have HXq := Lib.hid (HXb.out.below Bq.out)
          have HRBq := Lib.hid (HRB.out.below Bq.out)
          have BWq := Lib.hid (Below.then HBw.out Bq.out)
          have hsq := hbq.size
          have HPS := Lib.hid (pick_snoc xs pre x xs)
          have HPRE : Hid (∀ ns ∈ pre ++ [x], ns ∈ ordL n) := fun ns h => by
            rw [List.mem_append, List.mem_singleton] at h
            rcases h with h | rfl
            · exact HPre.out ns h
            · exact hmem
          clear hbq
          by_cases hlt : codeN (rnL xs (nI x)) < codeN (pickL xs pre xs)
          · have hd : decide (codeN (rnL xs (nI x)) < codeN (pickL xs pre xs)) = true := decide_eq_true hlt
            rw [if_pos hlt] at HPS
            have x0 := HUq.out.1
            have x1 := HUq.out.2
            have v0 := HBq.out.1.1
            have v1 := HBq.out.1.2
            have f0 := HBq.out.2 0
            have f1 := HBq.out.2 1
            gi_wp2
            have g1 := setCell_grown wq ⟨bb, 0, none⟩ (.int .i64 n)
            have g2 := setCell_grown (wq.setCell ⟨bb, 0, none⟩ (.int .i64 n)) ⟨bb, 1, none⟩ (.slice Z n cz)
            have hblk : ∀ r, (Value.slice Z n cz).ownBlock = some r → W.heap.size ≤ r ∧ r < wq.heap.size := fun r hr => ⟨(HOUq.out.lt r hr).1, (HOUq.out.lt r hr).2⟩
            have hne : (Value.slice Z n cz).ownBlock = none ∨ (Value.slice Z n cz).ownBlock ≠ some bb := own_ne (fun k hk => (hblk k hk).1) (by omega)
            refine ⟨((grown_below Bq.out (some bb)).trans g1).trans g2, fun r => (Value.slice Z n cz).ownBlock = some r, ⟨Z, cz, HBq.out.set01 n _, ?_, fun r hr => ⟨fun e => (by have := (hblk r hr).1; omega), .inr hr, fun e => (by have := (hblk r hr).1; omega)⟩, (HXq.out.kept g1 (fun e => by injection e with e; have e : w.heap.size = bb := e; omega)).kept g2 (fun e => by injection e with e; have e : w.heap.size = bb := e; omega), (HRBq.out.kept g1 (fun e => by injection e with e; have e : w.heap.size + 1 = bb := e; omega)).kept g2 (fun e => by injection e with e; have e : w.heap.size + 1 = bb := e; omega), HPRE.out, (BWq.out.setCell (p := ⟨bb, 0, none⟩) (by show w.heap.size ≤ bb; omega) _).setCell (p := ⟨bb, 1, none⟩) (by show w.heap.size ≤ bb; omega) _⟩, fun r hr => ⟨by simpa using (hblk r hr).2, .inr (hblk r hr).1⟩⟩
            rw [HPS.out]
            exact ((HOUq.out.mono HBw.out.size).kept g1 hne).kept g2 hne
          · have hd : decide (codeN (rnL xs (nI x)) < codeN (pickL xs pre xs)) = false := decide_eq_false hlt
            rw [if_neg hlt] at HPS
            gi_wp2
            exact ⟨grown_below Bq.out _, Pt, ⟨Yb, cyb, HBq.out, by rw [HPS.out]; exact HOBq.out, HNb.out, HXq.out, HRBq.out, HPRE.out, BWq.out⟩, fun r hr => ⟨Nat.lt_of_lt_of_le (hpt r hr).1 Bq.out.size, .inl hr⟩⟩
        case done =>
          rintro D Pt W hD ⟨Yb, cyb, hbx, hob, hnb, htx, hrb, hpre, hbw⟩ hK
          have x0 := hbx.1.1
          have x1 := hbx.1.2
          have v0 := hrb.1.1
          have v1 := hrb.1.2
          have f0 := hrb.2 0
          have f1 := hrb.2 1
          have HX := Lib.hid (hrb.set01 n (.slice Yb n cyb))
          have g1 := setCell_grown W ⟨w.heap.size + 1, 0, none⟩ (.int .i64 n)
          have g2 := setCell_grown (W.setCell ⟨w.heap.size + 1, 0, none⟩ (.int .i64 n)) ⟨w.heap.size + 1, 1, none⟩ (.slice Yb n cyb)
          have hD2 := World.block_lt_of_cell? _ _ HT4.out.1.1
          have HKD2 : Hid (((W.setCell ⟨w.heap.size + 1, 0, none⟩ (.int .i64 n)).setCell ⟨w.heap.size + 1, 1, none⟩ (.slice Yb n cyb)).heap[D]? = some (.deferred (some []))) := by
            unfold Hid
            have hDW := (Array.getElem?_eq_some_iff.1 hK).1
            have hne : some D ≠ some (w.heap.size + 1) := fun e => by injection e with e; have : w.heap.size + 1 < w4.heap.size := hD2; omega
            exact ((g2.block D (by simp; exact hDW) hne).trans (g1.block D hDW hne)).trans hK
          have hnr : (Value.slice Yb n cyb).ownBlock = none ∨ (Value.slice Yb n cyb).ownBlock ≠ some (w.heap.size + 1) := by
            rcases e : (Value.slice Yb n cyb).ownBlock with _ | k
            · exact .inl rfl
            · exact .inr (fun e2 => by injection e2 with e2; exact (hnb k e).2.2 e2)
          have HO2 := Lib.hid ((hob.kept g1 hnr).kept g2 hnr)
          have HB2' := Lib.hid ((hbw.setCell (p := ⟨w.heap.size + 1, 0, none⟩) (show w.heap.size ≤ w.heap.size + 1 by omega) (.int .i64 n)).setCell (p := ⟨w.heap.size + 1, 1, none⟩) (show w.heap.size ≤ w.heap.size + 1 by omega) (.slice Yb n cyb))
          clear hbx hob hnb hbw hK hpre hrb htx g1 g2 hnr
          go_wp2
          have HBF := Lib.hid (HB2'.out.trans (belowK_b (w := w) (Nat.le_refl _) ((W.setCell ⟨w.heap.size + 1, 0, none⟩ (.int .i64 n)).setCell ⟨w.heap.size + 1, 1, none⟩ (.slice Yb n cyb)) D _ (.deferred none) (by have := HB4.out.size; omega) HKD2.out rfl rfl))
          have HOF := Lib.hid (own_put HKD2.out rfl HO2.out : Own (((W.setCell ⟨w.heap.size + 1, 0, none⟩ (.int .i64 n)).setCell ⟨w.heap.size + 1, 1, none⟩ (.slice Yb n cyb)).putObj D (.deferred none)) _ _ _)
          have r0 := (KpC.of_put (cb := w.heap.size) (.deferred none) HKD2.out rfl).cell (p := ⟨w.heap.size + 1, 0, none⟩) (by show w.heap.size + 1 ≠ w.heap.size; omega) HX.out.1.1
          have r1 := (KpC.of_put (cb := w.heap.size) (.deferred none) HKD2.out rfl).cell (p := ⟨w.heap.size + 1, 1, none⟩) (by show w.heap.size + 1 ≠ w.heap.size; omega) HX.out.1.2
          refine ⟨by simp, .inl ⟨_, _, rfl, run_takeDeferred HKD2.out, ?_⟩⟩
          refine ⟨.tuple #[.agg #[.int .i64 n, .slice Yb n cyb], .bool true], by simp only [results, Try.results16]; simp [go_sem, r0, r1], .slice Yb n cyb, by rw [HE.out.1], ?_, HBF.out⟩
          rw [HE.out.2]
          exact HOF.out
    · have q6 : symB6 s xs = false := by simp [symB6, h6]
      have hE := ln_no q6
      rw [hE.1, hE.2, q6]
      clear hE q6 HID hsl
      have h7 : 7 ≤ s := by omega
      have h7b : decide (6 < s) = true := decide_eq_true (by omega)
      go_enter Try.func16, Try.ntmps16
      go_wp2_with fail
      have b0 := (below_alloc1 w (.cells #[.int .i64 s, .slice A xs.length c] 27)).alloc (by simp) (.cells #[.int .i64 0, .slice none 0 0] 27)
      have x0 := (TBox.new w s (.slice A xs.length c) 27).below (below_alloc1 _ (.cells #[.int .i64 0, .slice none 0 0] 27))
      have t0 := BoxF.new (w.alloc (.cells #[.int .i64 s, .slice A xs.length c] 27)) 0 (.slice none 0 0) 27
      simp only [World.size_alloc] at t0
      generalize (w.alloc (.cells #[.int .i64 s, .slice A xs.length c] 27)).alloc (.cells #[.int .i64 0, .slice none 0 0] 27) = w0 at *
      have HX0 := Lib.hid x0
      have HB0 := Lib.hid b0
      have HT0 := Lib.hid t0
      clear x0 b0 t0
      have y0_0 := HX0.out.1
      have y1_0 := HX0.out.2
      go_wp2_with fail
      refine (implTourOk s _ xs _ (HR.out.below HB0.out)).mono ?_
      rintro e w1 ⟨rfl, hb⟩
      have HX1 := Lib.hid (HX0.out.below hb)
      have HT1 := Lib.hid (HT0.out.below hb)
      have HB1 := Lib.hid (Below.then HB0.out hb)
      clear hb HX0 HT0 HB0 y0_0 y1_0
      have y0_1 := HX1.out.1
      have y1_1 := HX1.out.2
      rw [q0]
      have v0 := HT1.out.1.1
      have v1 := HT1.out.1.2
      have f0 := HT1.out.2 0
      have f1 := HT1.out.2 1
      have HBx := Lib.hid ((HB1.out.setCell (p := ⟨w.heap.size + 1, 0, none⟩) (by simp) (.int .i64 0)).setCell (p := ⟨w.heap.size + 1, 1, none⟩) (by simp) (.slice none 0 0))
      have R0 : Hid (((w1.setCell ⟨w.heap.size + 1, 0, none⟩ (.int .i64 0)).setCell ⟨w.heap.size + 1, 1, none⟩ (.slice none 0 0)).cell? ⟨w.heap.size + 1, 0, none⟩ = some (.int .i64 0)) := (World.cell?_setCell_other _ _ _ _ (by simp)).trans (World.cell?_setCell_same _ _ _ v0)
      have R1 : Hid (((w1.setCell ⟨w.heap.size + 1, 0, none⟩ (.int .i64 0)).setCell ⟨w.heap.size + 1, 1, none⟩ (.slice none 0 0)).cell? ⟨w.heap.size + 1, 1, none⟩ = some (.slice none 0 0)) := World.cell?_setCell_same _ _ _ ((World.cell?_setCell_other _ _ _ _ (by simp)).trans v1)
      go_wp2
      have r0 := R0.out
      have r1 := R1.out
      refine bodyPost_ret (v := .tuple #[.agg #[.int .i64 0, .slice none 0 0], .bool false]) (by simp only [results, Try.results16]; simp [go_sem, r0, r1]) rfl ⟨_, rfl, Own.nil_ _ _, HBx.out⟩
end Go.Proofs.Ytceeplhkokajhab
