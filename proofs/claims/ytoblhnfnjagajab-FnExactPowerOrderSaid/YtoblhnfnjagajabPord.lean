/- FnExactPowerOrder: the functions. -/
import Derived.Test.YtoblhnfnjagajabIdx
import Derived.Test.YtoblhnfnjagajabOrd
import Derived.Test.YtoblhnfnjagajabPow
import Derived.Deep.RegionHeld3
import Derived.Lib.SliceRun
namespace Go.Proofs.Ytoblhnfnjagajab
open Go.RowKit Go.Sort
set_option maxRecDepth 100000
theorem idx_ids (n : Nat) : idxL n = idsL n := rfl
def cmpC (x y : Int) : Int := if x < y then -1 else if y < x then 1 else 0
set_option maxHeartbeats 2000000 in
theorem isNaN_any (x : Int) (w : World) : Calls Try.prog 112 #[.int .i64 x] w fun e w' => e = .returned (.bool false) ∧ w = w' := by
  go_enter Try.func112, Try.ntmps112
  go_wp2
  go_ret
  exact ⟨by simp, rfl⟩
set_option maxHeartbeats 2000000 in
theorem compare_any (x y : Int) (w : World) : Calls Try.prog 87 #[.int .i64 x, .int .i64 y] w fun e w' => e = .returned (.int .i64 (cmpC x y)) ∧ w = w' := by
  have HC : Hid (cmpC x y = if x < y then -1 else if y < x then 1 else 0) := rfl
  go_enter Try.func87, Try.ntmps87
  go_wp2_with fail
  refine (isNaN_any x _).mono ?_
  rintro e w1 ⟨rfl, rfl⟩
  go_wp2_with fail
  refine (isNaN_any y _).mono ?_
  rintro e w1 ⟨rfl, rfl⟩
  by_cases h1 : x < y
  · go_wp2
    go_ret
    exact ⟨ret_int (by rw [HC.out, if_pos h1]), rfl⟩
  · by_cases h2 : y < x
    · go_wp2
      go_ret
      exact ⟨ret_int (by rw [HC.out, if_neg (by omega), if_pos h2]), rfl⟩
    · go_wp2
      go_ret
      exact ⟨ret_int (by rw [HC.out, if_neg (by omega), if_neg (by omega)]), rfl⟩
set_option maxHeartbeats 2000000 in
theorem ord1_any (L : List Int) (v : Value) (gb a b : Nat) (W : World) (hb : W.cell? ⟨gb, 0, none⟩ = some v) (h : Rd W v L) (ha : a < L.length) (hb2 : b < L.length) :
    Calls Try.prog 86 #[.int .i64 a, .int .i64 b, .pointer (some ⟨gb, 0, none⟩)] W fun e w' => e = .returned (.int .i64 (cmpC (L.getD b 0) (L.getD a 0))) ∧ Below W.heap.size W w' := by
  obtain ⟨A, c, rfl, hl, hm, hx⟩ := h
  unfold maxLen at hm
  obtain ⟨g, o, rfl, hg, hc⟩ := hx (by omega)
  have za := hc a ha
  have zb := hc b hb2
  generalize L.getD a 0 = xa at *
  generalize L.getD b 0 = xb at *
  generalize hn : L.length = n at *
  have HN := Lib.hid hn
  clear hn hc hx
  go_enter Try.func86, Try.ntmps86
  go_wp2_with fail
  go_region_held3 (fun W => W.cell? ⟨gb, 0, none⟩ = some (.slice (some ⟨g, o, none⟩) n c) ∧ W.cell? ⟨g, o + a, none⟩ = some (.int .i64 xa) ∧ W.cell? ⟨g, o + b, none⟩ = some (.int .i64 xb))
    (first | exact ⟨hb, za, zb⟩)
    (first
      | (go_at_call 87; refine (compare_any _ _ _).mono ?_; rintro e wz ⟨rfl, rfl⟩))
  all_goals
    go_wp2
    go_ret
    exact ⟨rfl, (let r := Below.refl W.heap.size W; ⟨r.os, r.tape, r.output, r.size, r.block⟩)⟩
theorem ord_eq (L : List Int) (n : Nat) (_h : n = L.length) : sortR (fun x y => decide (cmpC (L.getD y.toNat 0) (L.getD x.toNat 0) < 0)) (idxL n) = ordK L n := by
  unfold ordK
  rw [idx_ids]
  congr 1
  funext x y
  unfold befK
  rw [decide_eq_decide]
  unfold cmpC
  generalize L.getD y.toNat 0 = p
  generalize L.getD x.toNat 0 = q
  by_cases h1 : p < q
  · simp [h1]
  · rw [if_neg h1]
    by_cases h2 : q < p
    · simp [h2]; omega
    · rw [if_neg h2]; simp; omega
set_option maxHeartbeats 2000000 in
theorem orderBy_any (L : List Int) (v : Value) (w : World) (h : Rd w v L) (h1 : 1 ≤ L.length) (h2 : L.length < 20) :
    Calls Try.prog 36 #[v] w fun e w' => ∃ v', e = .returned v' ∧ Own w' w.heap.size v' (ordK L L.length) ∧ Below w.heap.size w w' := by
  have HR := Lib.hid h
  obtain ⟨A, c, rfl, -, hm, -⟩ := h
  unfold maxLen at hm
  generalize hn : L.length = n at *
  have HN := Lib.hid hn
  have HE := Lib.hid (ord_eq L n hn.symm)
  clear hn
  have hE : Enters 86 := fun args W => by kernel_rfl
  go_enter Try.func36, Try.ntmps36
  have b0 := below_alloc1 w (.cells #[.slice A n c] 22)
  have z0 : (w.alloc (.cells #[.slice A n c] 22)).cell? ⟨w.heap.size, 0, none⟩ = some (.slice A n c) := by simp
  have HB0 := Lib.hid b0
  have HZ0 := Lib.hid z0
  clear b0
  go_wp2_with fail
  refine (indices_any n (by omega) _ h1).mono ?_
  rintro e w4 ⟨rfl, ho4, hb4⟩
  generalize w.alloc (.cells #[.slice A n c] 22) = w3 at *
  have HO4 := Lib.hid ho4
  have HB4 := Lib.hid hb4
  clear ho4 hb4 z0
  go_wp2_with fail
  refine (sortStable_any 86 #[.pointer (some ⟨w.heap.size, 0, none⟩)] hE (fun x y => cmpC (L.getD y.toNat 0) (L.getD x.toNat 0)) (idxL n) n w3.heap.size w3.heap.size n w4 (idxL_len n) (by omega) (by omega) (Nat.le_refl _) (by omega) HB4.out.size HO4.out (fun x hx y hy W hW => by
    obtain ⟨a, ha, rfl⟩ := idxL_mem hx
    obtain ⟨b, hb, rfl⟩ := idxL_mem hy
    have hWW : Below w3.heap.size w3 W := HB4.out.trans hW
    exact ord1_any L _ w.heap.size a b W ((hWW.cell (p := ⟨w.heap.size, 0, none⟩) (World.block_lt_of_cell? _ _ HZ0.out)).trans HZ0.out) (HR.out.below (Below.then HB0.out hWW)) (by rw [HN.out]; exact ha) (by rw [HN.out]; exact hb))).mono ?_
  rintro e w5 ⟨rfl, ho5, hb5⟩
  have HO5 := Lib.hid ho5
  have HB5 := Lib.hid (HB4.out.trans hb5)
  clear ho5 hb5
  go_wp2
  go_ret
  exact ⟨_, rfl, by rw [← HE.out]; exact HO5.out.mono HB0.out.size, Below.then HB0.out HB5.out⟩
noncomputable def poL (s : Int) (xs : List Int) (k : Int) : List Int := ordK (pwR s xs k) (pwR s xs k).length
theorem poL_len (s : Int) (xs : List Int) (k : Int) : (poL s xs k).length ≤ 8 := by
  unfold poL; rw [ordK_len]; exact pwR_len s xs k
theorem pwR_no {s : Int} {xs : List Int} {k : Int} (h : (tourB s xs && inB k 0 12) = false) : pwR s xs k = [] := by unfold pwR; rw [h]; rfl
theorem pwR_pos {s : Int} {xs : List Int} {k : Int} (h : (tourB s xs && inB k 0 12) = true) : 1 ≤ (pwR s xs k).length := by
  unfold pwR
  rw [if_pos h, pwL_len]
  rw [Bool.and_eq_true] at h
  have := (tourB_true.1 h.1).1
  have := (tourB_true.1 h.1).2.1
  omega
theorem ordK_nil : ordK [] 0 = [] := rfl
set_option maxHeartbeats 2000000 in
theorem implPowerNil (s : Int) (sl : Value) (xs : List Int) (k : Int) (w : World) (h : Rd w sl xs) (hno : (tourB s xs && inB k 0 12) = false) :
    Calls Try.prog 75 #[.agg #[.int .i64 s, sl], .int .i64 k] w fun e w' => e = .returned (.slice none 0 0) ∧ Below w.heap.size w w' := by
  have HR := Lib.hid h
  obtain ⟨A, c, rfl, -, -, -⟩ := h
  rcases q0 : tourB s xs with _ | _
  case false =>
    go_enter Try.func75, Try.ntmps75
    go_wp2_with fail
    have b0 := below_alloc1 w (.cells #[.int .i64 s, .slice A xs.length c] 27)
    have x0 := TBox.new w s (.slice A xs.length c) 27
    generalize w.alloc (.cells #[.int .i64 s, .slice A xs.length c] 27) = w0 at *
    have HX0 := Lib.hid x0
    have HB0 := Lib.hid b0
    clear x0 b0
    have y0_0 := HX0.out.1
    have y1_0 := HX0.out.2
    go_wp2_with fail
    refine (implTourOk s _ xs _ (HR.out.below HB0.out)).mono ?_
    rintro e w1 ⟨rfl, hb⟩
    have HX1 := Lib.hid (HX0.out.below hb)
    have HB1 := Lib.hid (Below.then HB0.out hb)
    clear hb HX0 HB0 y0_0 y1_0
    have y0_1 := HX1.out.1
    have y1_1 := HX1.out.2
    rw [q0]
    go_wp2
    go_ret
    exact ⟨rfl, HB1.out⟩
  rcases q1 : inB k 0 12 with _ | _
  case false =>
    go_enter Try.func75, Try.ntmps75
    go_wp2_with fail
    have b0 := below_alloc1 w (.cells #[.int .i64 s, .slice A xs.length c] 27)
    have x0 := TBox.new w s (.slice A xs.length c) 27
    generalize w.alloc (.cells #[.int .i64 s, .slice A xs.length c] 27) = w0 at *
    have HX0 := Lib.hid x0
    have HB0 := Lib.hid b0
    clear x0 b0
    have y0_0 := HX0.out.1
    have y1_0 := HX0.out.2
    go_wp2_with fail
    refine (implTourOk s _ xs _ (HR.out.below HB0.out)).mono ?_
    rintro e w1 ⟨rfl, hb⟩
    have HX1 := Lib.hid (HX0.out.below hb)
    have HB1 := Lib.hid (Below.then HB0.out hb)
    clear hb HX0 HB0 y0_0 y1_0
    have y0_1 := HX1.out.1
    have y1_1 := HX1.out.2
    rw [q0]
    go_wp2_with fail
    refine (within_any _ _ _ _).mono ?_
    rintro e wz ⟨rfl, rfl⟩
    rw [q1]
    go_wp2
    go_ret
    exact ⟨rfl, HB1.out⟩
  go_enter Try.func75, Try.ntmps75
  go_wp2_with fail
  have b0 := below_alloc1 w (.cells #[.int .i64 s, .slice A xs.length c] 27)
  have x0 := TBox.new w s (.slice A xs.length c) 27
  generalize w.alloc (.cells #[.int .i64 s, .slice A xs.length c] 27) = w0 at *
  have HX0 := Lib.hid x0
  have HB0 := Lib.hid b0
  clear x0 b0
  have y0_0 := HX0.out.1
  have y1_0 := HX0.out.2
  go_wp2_with fail
  refine (implTourOk s _ xs _ (HR.out.below HB0.out)).mono ?_
  rintro e w1 ⟨rfl, hb⟩
  have HX1 := Lib.hid (HX0.out.below hb)
  have HB1 := Lib.hid (Below.then HB0.out hb)
  clear hb HX0 HB0 y0_0 y1_0
  have y0_1 := HX1.out.1
  have y1_1 := HX1.out.2
  rw [q0]
  go_wp2_with fail
  refine (within_any _ _ _ _).mono ?_
  rintro e wz ⟨rfl, rfl⟩
  rw [q1]
  rw [q0, q1] at hno
  cases hno
set_option maxHeartbeats 2000000 in
theorem implPowOrd (s : Int) (sl : Value) (xs : List Int) (k : Int) (w : World) (h : Rd w sl xs) :
    Calls Try.prog 43 #[.agg #[.int .i64 s, sl], .int .i64 k] w fun e w' => ∃ v', e = .returned v' ∧ Own w' w.heap.size v' (poL s xs k) ∧ Below w.heap.size w w' := by
  have HR := Lib.hid h
  obtain ⟨A, c, rfl, -, -, -⟩ := h
  have qT : ∀ (w : World) (a : Option Addr) (n c n' c' : Nat), (binOp .eql 22 (.slice a n c) (.slice none n' c')).run Try.prog w = .ok (.bool a.isNone) w := fun w a n c n' c' => Lib.run_eql_slice_nil w _ _ a n c n' c' Try.underlying22
  go_enter Try.func43, Try.ntmps43
  go_wp2_with fail
  have b0 := below_alloc1 w (.cells #[.int .i64 s, .slice A xs.length c] 27)
  have x0 := TBox.new w s (.slice A xs.length c) 27
  generalize w.alloc (.cells #[.int .i64 s, .slice A xs.length c] 27) = w0 at *
  have HX0 := Lib.hid x0
  have HB0 := Lib.hid b0
  clear x0 b0
  have y0_0 := HX0.out.1
  have y1_0 := HX0.out.2
  rcases hv : (tourB s xs && inB k 0 12) with _ | _
  · have hF : Hid (poL s xs k = []) := by unfold Hid poL; rw [pwR_no hv]; rfl
    go_wp2_with fail
    refine (implPowerNil s _ xs k _ (HR.out.below HB0.out) hv).mono ?_
    rintro e w2 ⟨rfl, hb⟩
    have HB2 := Lib.hid (Below.then HB0.out hb)
    clear hb hv
    go_wp2
    go_ret
    exact ⟨_, rfl, by rw [hF.out]; exact Own.nil_ _ _, HB2.out⟩
  · have h1 := pwR_pos hv
    have h2 := pwR_len s xs k
    go_wp2_with fail
    refine (implPower s _ xs k _ (HR.out.below HB0.out)).mono ?_
    rintro e w2 ⟨v, rfl, ho, hb⟩
    obtain ⟨gp, cp, rfl, hgp, hcp, hncp, hpc, -⟩ := ho.at_ rfl (by omega)
    have HB2 := Lib.hid (Below.then HB0.out hb)
    have HO := Lib.hid (ho.mono HB0.out.size)
    have hs2 := HB2.out.size
    clear hb ho hpc hv
    go_wp2_with fail
    refine (orderBy_any (pwR s xs k) _ _ HO.out.rd h1 (by omega)).mono ?_
    rintro e w3 ⟨v3, rfl, ho3, hb3⟩
    have HO3 := Lib.hid ho3
    have HB3 := Lib.hid (Below.then HB2.out hb3)
    clear ho3 hb3
    go_wp2
    go_ret
    exact ⟨_, rfl, HO3.out.mono hs2, HB3.out⟩
set_option maxHeartbeats 2000000 in
theorem specPowOrd (s : Int) (sl : Value) (xs : List Int) (k : Int) (w : World) (h : Rd w sl xs) :
    Calls Try.prog 42 #[.agg #[.int .i64 s, sl], .int .i64 k] w fun e w' => ∃ v', e = .returned v' ∧ Own w' w.heap.size v' (poL s xs k) ∧ Below w.heap.size w w' := by
  have HR := Lib.hid h
  obtain ⟨A, c, rfl, -, -, -⟩ := h
  go_enter Try.func42, Try.ntmps42
  go_wp2_with fail
  have b0 := below_alloc1 w (.cells #[.int .i64 s, .slice A xs.length c] 27)
  have x0 := TBox.new w s (.slice A xs.length c) 27
  generalize w.alloc (.cells #[.int .i64 s, .slice A xs.length c] 27) = w0 at *
  have HX0 := Lib.hid x0
  have HB0 := Lib.hid b0
  clear x0 b0
  have y0_0 := HX0.out.1
  have y1_0 := HX0.out.2
  have h2 := pwR_len s xs k
  go_wp2_with fail
  refine (specPower s _ xs k _ (HR.out.below HB0.out)).mono ?_
  rintro e w2 ⟨v, rfl, ho, hb⟩
  obtain ⟨Y, cp, rfl, hcp, hlp, hY⟩ := ho.form
  have HB2 := Lib.hid (Below.then HB0.out hb)
  have HO := Lib.hid (ho.mono HB0.out.size)
  have hs2 := HB2.out.size
  unfold maxLen at hcp
  clear hb ho hY
  have HL := Lib.hid (l09Order_any (.slice Y (pwR s xs k).length cp) (pwR s xs k) w2 HO.out.rd (by omega))
  have hF : (pwR s xs k).length = 0 → poL s xs k = [] := fun h => by unfold poL; rw [h, List.eq_nil_of_length_eq_zero h]; rfl
  have HF := Lib.hid hF
  have HP : Hid (poL s xs k = ordK (pwR s xs k) (pwR s xs k).length) := rfl
  clear hF
  generalize hm : (pwR s xs k).length = m at *
  clear hm
  rcases Nat.eq_zero_or_pos m with h0 | h0
  · have HZ := Lib.hid (HF.out h0)
    go_wp2
    go_ret
    exact ⟨_, rfl, by rw [HZ.out]; exact Own.nil_ _ _, HB2.out⟩
  · go_wp2_with fail
    refine HL.out.mono ?_
    rintro e w3 ⟨v3, rfl, ho3, hb3⟩
    have HO3 := Lib.hid ho3
    have HB3 := Lib.hid (Below.then HB2.out hb3)
    clear ho3 hb3
    go_wp2
    go_ret
    exact ⟨_, rfl, by rw [HP.out]; exact HO3.out.mono hs2, HB3.out⟩
end Go.Proofs.Ytoblhnfnjagajab
