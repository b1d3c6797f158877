/- FnExactPowerScores: the functions. -/
import Derived.Test.YtoblhnfnjagajabKing
import Derived.Test.YtoblhnfnjagajabTail
import Derived.Test.YtoblhnfnjagajabRep
import Derived.Test.YtoblhnfnjagajabOwn0
import Derived.Test.YtoblhnfnjagajabTourLw
namespace Go.Proofs.Ytoblhnfnjagajab
open Go.RowKit Go.Sort

/-- the sum over the first j whom a beats -/
def pwT (xs ys : List Int) (a j : Nat) : Int := (((memN (winsN xs a) 8).take j).map fun b => ys.getD b 0).sum
def pwAt (xs ys : List Int) (a : Nat) : Int := pwT xs ys a (memN (winsN xs a) 8).length
def pwStep (xs ys : List Int) : List Int := (List.range xs.length).map (pwAt xs ys)
def pwL (xs : List Int) : Nat → List Int
  | 0 => List.replicate xs.length 1
  | k + 1 => pwStep xs (pwL xs k)
def PB (B : Int) (ys : List Int) : Prop := ∀ b : Nat, 0 ≤ ys.getD b 0 ∧ ys.getD b 0 ≤ B
theorem pwT_zero (xs ys : List Int) (a : Nat) : pwT xs ys a 0 = 0 := by simp [pwT]
theorem pwT_succ {xs ys : List Int} {a j : Nat} (h : j < (memN (winsN xs a) 8).length) : pwT xs ys a (j + 1) = pwT xs ys a j + ys.getD ((memN (winsN xs a) 8).getD j 0) 0 := by
  unfold pwT
  rw [take_snocN h, List.map_append, List.sum_append, getD_nat h]
  simp
theorem pwT_bd {xs ys : List Int} {B : Int} (hB : PB B ys) (a j : Nat) (h : j ≤ (memN (winsN xs a) 8).length) : 0 ≤ pwT xs ys a j ∧ pwT xs ys a j ≤ B * j := by
  induction j with
  | zero => simp [pwT_zero]
  | succ j ih =>
    have ih := ih (by omega)
    have hb := hB ((memN (winsN xs a) 8).getD j 0)
    rw [pwT_succ (by omega)]
    have : B * ((j + 1 : Nat) : Int) = B * j + B := by rw [Int.natCast_add, Int.mul_add]; simp
    omega
theorem pwT_bd' {xs ys : List Int} {B : Int} (hB : PB B ys) (h0 : 0 ≤ B) (h1 : B ≤ 68719476736) (a j : Nat) (h : j ≤ (memN (winsN xs a) 8).length) : 0 ≤ pwT xs ys a j ∧ pwT xs ys a j ≤ 549755813888 := by
  have h2 := pwT_bd (xs := xs) hB a j h
  have hl := memN_len (winsN xs a) 8
  have : B * (j : Int) ≤ B * 8 := Int.mul_le_mul_of_nonneg_left (by omega) h0
  omega
theorem memL_cells' {w : World} {base S k q d : Nat} {A : Option Addr} (h : Own w base (.slice A q d) (memL S k)) (hq : (memN S k).length = q) (h0 : 0 < q) :
    ∃ g off, A = some ⟨g, off, none⟩ ∧ g < w.heap.size ∧ ∀ j, j < q → w.cell? ⟨g, off + j, none⟩ = some (.int .i64 ((memN S k).getD j 0 : Nat)) := by
  obtain ⟨A', c, e, -, -, hx⟩ := memL_cells h
  injection e with e1 _ _
  subst e1
  rw [hq] at hx
  obtain ⟨g, off, e, hg, hz⟩ := hx h0
  exact ⟨g, off, e, hg, hz⟩
theorem pwAt_bd {xs ys : List Int} {B : Int} (hB : PB B ys) (h0 : 0 ≤ B) (a : Nat) : 0 ≤ pwAt xs ys a ∧ pwAt xs ys a ≤ B * 8 := by
  have h := pwT_bd (xs := xs) hB a _ (Nat.le_refl _)
  have hl := memN_len (winsN xs a) 8
  have : B * ((memN (winsN xs a) 8).length : Int) ≤ B * 8 := Int.mul_le_mul_of_nonneg_left (by omega) h0
  unfold pwAt
  omega
theorem pwStep_len (xs ys : List Int) : (pwStep xs ys).length = xs.length := by simp [pwStep]
theorem pwL_len (xs : List Int) (k : Nat) : (pwL xs k).length = xs.length := by cases k <;> simp [pwL, pwStep_len]
theorem pwStep_at {xs ys : List Int} {a : Nat} (h : a < xs.length) : (pwStep xs ys).getD a 0 = pwAt xs ys a := by simp [pwStep, h]
theorem pwL_bd (xs : List Int) (k : Nat) : PB (8 ^ k : Int) (pwL xs k) := by
  induction k with
  | zero =>
    intro b
    by_cases h : b < xs.length
    · simp [pwL, h]
    · simp [pwL, Nat.le_of_not_lt h]
  | succ k ih =>
    intro b
    have h0 : (0 : Int) ≤ 8 ^ k := Int.pow_nonneg (by decide)
    by_cases h : b < xs.length
    · rw [pwL, pwStep_at h, Int.pow_succ]
      exact pwAt_bd ih h0 b
    · have : (pwL xs (k + 1)).getD b 0 = 0 := by
        rw [List.getD_eq_getElem?_getD, List.getElem?_eq_none (by rw [pwL_len]; omega)]; rfl
      rw [this, Int.pow_succ]
      omega
theorem pw8 {k : Nat} (h : k ≤ 12) : (8 : Int) ^ k ≤ 68719476736 := by
  have : (8 : Nat) ^ k ≤ 8 ^ 12 := Nat.pow_le_pow_right (by decide) h
  have e : ((8 ^ k : Nat) : Int) = (8 : Int) ^ k := by simp
  rw [← e]
  have e2 : (8 : Nat) ^ 12 = 68719476736 := by decide
  omega
noncomputable def pwR (s : Int) (xs : List Int) (k : Int) : List Int := if (tourB s xs && inB k 0 12) = true then pwL xs k.toNat else []
theorem pwR_len (s : Int) (xs : List Int) (k : Int) : (pwR s xs k).length ≤ 8 := by
  unfold pwR
  split
  · rename_i h
    rw [Bool.and_eq_true] at h
    have := (tourB_true.1 h.1).1
    have := (tourB_true.1 h.1).2.1
    rw [pwL_len]; omega
  · simp
theorem getD_rep (n i : Nat) : (List.replicate n (0 : Int)).getD i 0 = 0 := by
  by_cases h : i < n
  · simp [h]
  · simp [Nat.le_of_not_lt h]
/-- the row that grows: done below a, the j-th partial sum at a, zeros above -/
def pwRow (xs ys N : List Int) (n a j : Nat) : Prop := ∀ i, i < n → N.getD i 0 = if i < a then pwAt xs ys i else if i = a then pwT xs ys a j else 0
theorem pwRow_start {xs ys : List Int} {n : Nat} : pwRow xs ys (List.replicate n 0) n 0 0 := fun i _ => by
  rw [getD_rep, pwT_zero]; simp
theorem pwRow_next {xs ys N : List Int} {n a : Nat} (h : pwRow xs ys N n a (memN (winsN xs a) 8).length) : pwRow xs ys N n (a + 1) 0 := fun i hi => by
  rw [h i hi, pwT_zero]
  by_cases h1 : i < a
  · rw [if_pos h1, if_pos (by omega)]
  · rw [if_neg h1]
    by_cases h2 : i = a
    · subst h2; rw [if_pos rfl, if_pos (by omega)]; rfl
    · rw [if_neg h2, if_neg (by omega)]; simp
theorem pwRow_step {xs ys N : List Int} {n a j : Nat} {v : Int} (hl : N.length = n) (h : pwRow xs ys N n a j) (ha : a < n) (hv : pwT xs ys a (j + 1) = v) : pwRow xs ys (N.set a v) n a (j + 1) := fun i hi => by
  by_cases h2 : i = a
  · subst h2
    rw [getD_set_same _ (by omega), if_neg (by omega), if_pos rfl, hv]
  · rw [getD_set_other _ (Ne.symm h2), h i hi, if_neg h2, if_neg h2]
theorem pwRow_at {xs ys N : List Int} {n a j : Nat} (h : pwRow xs ys N n a j) (ha : a < n) : N.getD a 0 = pwT xs ys a j := by
  rw [h a ha, if_neg (by omega), if_pos rfl]
theorem pwRow_end {xs ys N : List Int} {n : Nat} (hn : xs.length = n) (hl : N.length = n) (h : pwRow xs ys N n n 0) : N = pwStep xs ys :=
  list_ext0 hl (by rw [pwStep_len, hn]) fun i hi => by
    rw [h i hi, if_pos hi, pwStep_at (by omega)]
set_option maxHeartbeats 4000000 in
set_option maxRecDepth 100000 in
theorem implPower (s : Int) (sl : Value) (xs : List Int) (k : Int) (w : World) (h : Rd w sl xs) :
    Calls Try.prog 75 #[.agg #[.int .i64 s, sl], .int .i64 k] w fun e w' => ∃ v', e = .returned v' ∧ Own w' w.heap.size v' (pwR s xs k) ∧ Below w.heap.size w w' := by
  obtain ⟨i0, hi, hz0, hz1, hz2⟩ := info_parts i64_info
  have HR := Lib.hid h
  obtain ⟨A, c, rfl, -, -, -⟩ := h
  rcases q0 : tourB s xs with _ | _
  case false =>
    go_enter Try.func75, Try.ntmps75
    go_wp2_with fail
    have b0 := below_alloc1 w (.cells #[.int .i64 s, .slice A xs.length c] 27)
    have x0 := TBox.new w s (.slice A xs.length c) 27
    generalize w.alloc (.cells #[.int .i64 s, .slice A xs.length c] 27) = w0 at *
    have HX0 := Lib.hid x0
    have HB0 := Lib.hid b0
    clear x0 b0
    have y0_0 := HX0.out.1
    have y1_0 := HX0.out.2
    go_wp2_with fail
    refine (implTourOk s _ xs _ (HR.out.below HB0.out)).mono ?_
    rintro e w1 ⟨rfl, hb⟩
    have HX1 := Lib.hid (HX0.out.below hb)
    have HB1 := Lib.hid (Below.then HB0.out hb)
    clear hb HX0 HB0 y0_0 y1_0
    have y0_1 := HX1.out.1
    have y1_1 := HX1.out.2
    rw [q0]
    go_wp2
    go_ret
    exact ⟨_, rfl, by simp only [pwR, *]; exact Own.nil_ _ _, HB1.out⟩
  have hp := tourB_true.1 q0
  have hs := hp.1
  have hl := hp.2.1
  rcases q1 : inB k 0 12 with _ | _
  case false =>
    go_enter Try.func75, Try.ntmps75
    go_wp2_with fail
    have b0 := below_alloc1 w (.cells #[.int .i64 s, .slice A xs.length c] 27)
    have x0 := TBox.new w s (.slice A xs.length c) 27
    generalize w.alloc (.cells #[.int .i64 s, .slice A xs.length c] 27) = w0 at *
    have HX0 := Lib.hid x0
    have HB0 := Lib.hid b0
    clear x0 b0
    have y0_0 := HX0.out.1
    have y1_0 := HX0.out.2
    go_wp2_with fail
    refine (implTourOk s _ xs _ (HR.out.below HB0.out)).mono ?_
    rintro e w1 ⟨rfl, hb⟩
    have HX1 := Lib.hid (HX0.out.below hb)
    have HB1 := Lib.hid (Below.then HB0.out hb)
    clear hb HX0 HB0 y0_0 y1_0
    have y0_1 := HX1.out.1
    have y1_1 := HX1.out.2
    rw [q0]
    go_wp2_with fail
    refine (within_any _ _ _ _).mono ?_
    rintro e wz ⟨rfl, rfl⟩
    rw [q1]
    go_wp2
    go_ret
    exact ⟨_, rfl, by simp only [pwR, *]; exact Own.nil_ _ _, HB1.out⟩
  have hk := inB_true.1 q1
  go_enter Try.func75, Try.ntmps75
  go_wp2_with fail
  have b0 := below_alloc1 w (.cells #[.int .i64 s, .slice A xs.length c] 27)
  have x0 := TBox.new w s (.slice A xs.length c) 27
  generalize w.alloc (.cells #[.int .i64 s, .slice A xs.length c] 27) = w0 at *
  have HX0 := Lib.hid x0
  have HB0 := Lib.hid b0
  clear x0 b0
  have y0_0 := HX0.out.1
  have y1_0 := HX0.out.2
  go_wp2_with fail
  refine (implTourOk s _ xs _ (HR.out.below HB0.out)).mono ?_
  rintro e w1 ⟨rfl, hb⟩
  have HX1 := Lib.hid (HX0.out.below hb)
  have HB1 := Lib.hid (Below.then HB0.out hb)
  clear hb HX0 HB0 y0_0 y1_0
  have y0_1 := HX1.out.1
  have y1_1 := HX1.out.2
  rw [q0]
  go_wp2_with fail
  refine (within_any _ _ _ _).mono ?_
  rintro e wz ⟨rfl, rfl⟩
  rw [q1]
  have hF : Hid (pwR s xs k = pwL xs k.toNat) := by unfold Hid; simp [pwR, q0, q1]
  obtain ⟨m, rfl⟩ := Int.eq_ofNat_of_zero_le hk.1
  have hm12 : m ≤ 12 := by omega
  rw [show ((m : Int)).toNat = m from rfl] at hF
  obtain ⟨g, off, c', e, hc', hg, hx⟩ := tour_cells HR.out hp
  injection e with e1 _ e2
  subst e1 e2
  unfold maxLen at hc'
  have HXS := Lib.hid hx
  have HW := Lib.hid (fun j hj => (tour_wins hp (a := j) hj).2.2)
  have HM := Lib.hid (fun a ha => wins_mem hp (a := a) ha)
  clear hx hp q0 q1 hk
  generalize hn : xs.length = n at *
  have HN := Lib.hid hn
  clear hn
  obtain rfl : s = n := by omega
  have y0' := (HX1.out.below (below_alloc1 w1 (.cells #[.int .i64 1] 3))).1
  go_wp2_with fail
  refine (repeat1_any n w1.heap.size (w1.alloc (.cells #[.int .i64 1] 3)) (by omega) (by omega) (by simp [go_sem])).mono ?_
  rintro e w3 ⟨v3, rfl, ho, hb⟩
  have hb' := Below.then (below_alloc1 w1 _) hb
  have HB3 := Lib.hid (Below.then HB1.out hb')
  have HX3 := Lib.hid (HX1.out.below hb')
  have HO3 := Lib.hid (ho.mono (show w.heap.size ≤ _ from Nat.le_trans HB1.out.size (Nat.le_of_lt (by simp))))
  clear ho hb hb' y0' y0_1 y1_1 HX1 HB1
  go_wp2
  go_loopw [5, 24] (fun now i wr => ∃ (j : Nat) (V : Value), j ≤ m ∧ i = .int .i64 j ∧ now = V ∧ Own wr w.heap.size V (pwL xs j) ∧ Below w3.heap.size w3 wr) (fun _ i _ => m - (intOf i).toNat)
  case atStart => exact ⟨0, _, by omega, rfl, rfl, by rw [pwL, HN.out]; exact HO3.out, Below.refl _ _⟩
  case round =>
    obtain ⟨wo, rfl⟩ : ∃ x, x = wr := ⟨_, rfl⟩
    obtain ⟨j, V, hj, rfl, rfl, hown, hb⟩ := hrel
    have HO := Lib.hid hown
    have HB := Lib.hid hb
    have HXr := Lib.hid (HX3.out.below hb)
    have y0 := HXr.out.1
    have y1 := HXr.out.2
    clear hown hb
    by_cases hlt : j < m
    · have HPB := Lib.hid (pwL_bd xs j)
      have h8 := pw8 (show j ≤ 12 by omega)
      have h80 : (0 : Int) ≤ 8 ^ j := Int.pow_nonneg (by decide)
      have HST : Hid (pwL xs (j + 1) = pwStep xs (pwL xs j)) := rfl
      have hYl := pwL_len xs j
      rw [HN.out] at hYl
      generalize pwL xs j = Y at *
      generalize (8 : Int) ^ j = B at *
      obtain ⟨gv, cv, rfl, hgv, hcv, hnv, hyc, -⟩ := HO.out.at_ hYl (by omega)
      have hgv2 := (HO.out.lt gv rfl).2
      unfold maxLen at hcv
      have HYC := Lib.hid hyc
      have hwr := HB.out.size
      have hw3 := HB3.out.size
      clear hyc
      go_wp2_with (at_make; refine wpList_make_full _ rfl _ _ 22 rfl wo.heap.size 3 i0 (.int .i64 0) 1 Try.underlying22 hi hz0 hz1 _ _ _ _ n rfl rfl rfl rfl (by rw [hz2]; omega) (by unfold maxLen; omega) (Nat.le_refl _) ?_; intro w4 hown hg1; have hb1 : Below wo.heap.size wo w4 := (Below.refl _ _).grown hg1 (Nat.le_refl _) (by simp); have y0' := (HXr.out.below hb1).1; have y1' := (HXr.out.below hb1).2; have HB4 := Lib.hid hb1; have HOWN := Lib.hid hown; clear hown hg1 hb1)
      generalize hgl : wo.heap.size = gl at *
      have HGL := Lib.hid hgl
      clear hgl y0' y1' y0 y1
      go_loopw [32] (fun i w5 => ∃ (a : Nat) (N : List Int), a ≤ n ∧ i = .int .i64 a ∧ N.length = n ∧ Own w5 gl (.slice (some ⟨gl, 0, none⟩) n n) N ∧ Hid (pwRow xs Y N n a 0) ∧ Below gl wo w5) (fun i _ => n - (intOf i).toNat)
      case atStart =>
        refine ⟨0, List.replicate n 0, by omega, rfl, by simp, ?_, pwRow_start, HB4.out⟩
        have ho := HOWN.out
        rw [ints_made'] at ho
        unfold Own
        rw [List.length_replicate]
        exact ho
      case round =>
        obtain ⟨wa, rfl⟩ : ∃ x, x = wr := ⟨_, rfl⟩
        obtain ⟨a, N, ha, rfl, hNl, hown, HP, hb⟩ := hrel
        have HOa := Lib.hid hown
        have HBa := Lib.hid hb
        clear hown hb
        by_cases hlta : a < n
        · have hB : Below w.heap.size w wa := Below.then (Below.then HB3.out HB.out) (by rw [HGL.out]; exact HBa.out)
          have hxa := (hB.cell (p := ⟨g, off + a, none⟩) hg).trans (HXS.out a hlta)
          have h256 := HW.out a hlta
          have hmem := HM.out a hlta
          clear hB
          have HPT := Lib.hid (fun (t : Nat) (ht : t ≤ (memN (winsN xs a) 8).length) => pwT_bd' HPB.out h80 h8 a t ht)
          have HPS := Lib.hid (fun (t : Nat) (ht : t < (memN (winsN xs a) 8).length) => pwT_succ (ys := Y) ht)
          have hm8 := memN_len (winsN xs a) 8
          go_wp2_with fail
          refine (membersOf_any (winsN xs a) 8 _ h256 (by omega)).mono ?_
          rintro e w6 ⟨v6, rfl, ho6, hb6⟩
          obtain ⟨A6, d6, rfl, hd1, hd2, hl6⟩ := memL_cells ho6
          unfold maxLen at hd1
          have HL6 := Lib.hid hl6
          have hg6 := HOa.out.lt gl rfl
          have HO6 := Lib.hid (HOa.out.below hb6)
          have hsz6 := hb6.size
          have HB6 := Lib.hid (show Below gl wo w6 from HBa.out.trans (hb6.mono (by omega)))
          have HMEM := Lib.hid hmem
          have HO66 := Lib.hid ho6
          clear ho6 hb6 hl6 hxa HOa HBa hmem
          generalize hLL : memN (winsN xs a) 8 = L at *
          generalize hLn : L.length = q at *
          have HLN := Lib.hid hLn
          have HLL2 := Lib.hid hLL
          clear hLn hLL
          go_wp2
          go_loopw [40] (fun i w7 => ∃ (t : Nat) (M : List Int), t ≤ q ∧ i = .int .i64 t ∧ M.length = n ∧ Own w7 gl (.slice (some ⟨gl, 0, none⟩) n n) M ∧ Hid (pwRow xs Y M n a t) ∧ Own w7 wa.heap.size (.slice A6 q d6) (memL (winsN xs a) 8) ∧ Below gl wo w7) (fun i _ => q - (intOf i).toNat)
          case atStart => exact ⟨0, N, by omega, rfl, hNl, HO6.out, HP, HO66.out, HB6.out⟩
          case round =>
            obtain ⟨t, M, ht, rfl, hMl, hown, HP7, ho7, hb⟩ := hrel
            by_cases hltt : t < q
            · obtain ⟨g7, off7, rfl, hg7, hz⟩ := memL_cells' ho7 (by rw [HLL2.out]; exact HLN.out) (by omega)
              have hzt := hz t hltt
              rw [HLL2.out] at hzt
              have hbn := HMEM.out (L.getD t 0) (by rw [getD_nat (by rw [HLN.out]; exact hltt)]; exact List.getElem_mem _)
              have hyb := (hb.cell (p := ⟨gv, L.getD t 0, none⟩) hgv2).trans (HYC.out _ hbn)
              obtain ⟨hx7, hf7⟩ := hown.at1 hMl (by omega)
              have za := hx7 a hlta
              rw [pwRow_at HP7.out hlta] at za
              have hP := HPT.out t (by omega)
              have hPs := Lib.hid (HPS.out t hltt)
              have hbd := HPB.out (L.getD t 0)
              have HO7 := Lib.hid hown
              have HM7 := Lib.hid ho7
              have HB7 := Lib.hid hb
              clear hz hx7 hf7 hown ho7 hb
              generalize L.getD t 0 = b at *
              generalize pwT xs Y a t = x at *
              generalize Y.getD b 0 = y at *
              go_wp2_with fail
              have c1 := cell_regrown za
              have c2 := cell_regrown hyb
              clear hzt za hyb
              refine wp_region_below_tail 10 (by kernel_rfl) (by kernel_rfl) ?_
              simp only [List.take_succ_cons, List.take_zero, List.drop_succ_cons, List.drop_zero]
              repeat (go_big_quiet_step (first | (with_reducible fail)))
              refine wpQuiet_nil ?_
              intro wq hbq0
              have hbq := Lib.hid hbq0
              clear hbq0
              clear c1 c2
              have O2 := HO7.out.below hbq.out
              obtain ⟨hx2, hf2⟩ := O2.at1 hMl (by omega)
              have za := hx2 a hlta
              rw [pwRow_at HP7.out hlta] at za
              have fa := hf2 a
              have HO3 := Lib.hid (O2.set_ hMl a (x + y)).1
              have HM3 := Lib.hid ((HM7.out.below hbq.out).kept (setCell_grown _ ⟨gl, a, none⟩ (.int .i64 (x + y))) (own_ne (fun k hk => (HM7.out.lt k hk).1) hg6.2))
              have hsz7 := HB7.out.size
              have HB8 := Lib.hid ((HB7.out.trans (hbq.out.mono (by have := HGL.out; omega))).setCell (p := ⟨gl, a, none⟩) (Nat.le_refl _) (.int .i64 (x + y)))
              clear hx2 hf2 O2 HO7 HM7 HB7
              go_wp2
              go_roundw
              case rel => exact ⟨t + 1, M.set a (x + y), by omega, by go_num, by rw [List.length_set]; exact hMl, HO3.out, pwRow_step hMl HP7.out hlta hPs.out, HM3.out, HB8.out⟩
              case measure => simp [intOf]; omega
            · obtain rfl : t = q := by omega
              have HP8 : Hid (pwRow xs Y M n (a + 1) 0) := pwRow_next (by rw [HLL2.out, HLN.out]; exact HP7.out)
              have HOM := Lib.hid hown
              have HBM := Lib.hid hb
              clear hown hb
              go_wp2
              go_roundw
              case rel => exact ⟨a + 1, M, by omega, by go_num, hMl, HOM.out, HP8.out, HBM.out⟩
              case measure => simp [intOf]; omega
        · obtain rfl : a = n := by omega
          have hE := pwRow_end HN.out hNl HP.out
          have hB3 : Below w3.heap.size w3 wa := Below.then HB.out (by rw [HGL.out]; exact HBa.out)
          have HB3' := Lib.hid hB3
          clear hB3
          rw [hE] at HOa
          go_wp2
          go_roundw
          case rel => exact ⟨j + 1, _, by omega, by go_num, rfl, by rw [HST.out]; have h1 := HOa.out.mono (show w.heap.size ≤ gl by omega); exact h1, HB3'.out⟩
          case measure => simp [intOf]; omega
    · obtain rfl : j = m := by omega
      go_wp2
      go_ret
      exact ⟨_, rfl, by rw [hF.out]; exact HO.out, Below.then HB3.out HB.out⟩
theorem pwMap_succ (xs Y : List Int) (a : Nat) : (List.range (a + 1)).map (pwAt xs Y) = (List.range a).map (pwAt xs Y) ++ [pwAt xs Y a] := by
  rw [List.range_succ, List.map_append]; rfl
set_option maxHeartbeats 4000000 in
set_option maxRecDepth 100000 in
theorem specPower (s : Int) (sl : Value) (xs : List Int) (k : Int) (w : World) (h : Rd w sl xs) :
    Calls Try.prog 88 #[.agg #[.int .i64 s, sl], .int .i64 k] w fun e w' => ∃ v', e = .returned v' ∧ Own w' w.heap.size v' (pwR s xs k) ∧ Below w.heap.size w w' := by
  have HR := Lib.hid h
  obtain ⟨A, c, rfl, -, -, -⟩ := h
  rcases q0 : tourB s xs with _ | _
  case false =>
    go_enter Try.func88, Try.ntmps88
    go_wp2_with fail
    have b0 := below_alloc1 w (.cells #[.int .i64 s, .slice A xs.length c] 27)
    have x0 := TBox.new w s (.slice A xs.length c) 27
    generalize w.alloc (.cells #[.int .i64 s, .slice A xs.length c] 27) = w0 at *
    have HX0 := Lib.hid x0
    have HB0 := Lib.hid b0
    clear x0 b0
    have y0_0 := HX0.out.1
    have y1_0 := HX0.out.2
    go_wp2_with fail
    refine (specTourOk s _ xs _ (HR.out.below HB0.out)).mono ?_
    rintro e w1 ⟨rfl, hb⟩
    have HX1 := Lib.hid (HX0.out.below hb)
    have HB1 := Lib.hid (Below.then HB0.out hb)
    clear hb HX0 HB0 y0_0 y1_0
    have y0_1 := HX1.out.1
    have y1_1 := HX1.out.2
    rw [q0]
    go_wp2
    go_ret
    exact ⟨_, rfl, by simp only [pwR, *]; exact Own.nil_ _ _, HB1.out⟩
  have hp := tourB_true.1 q0
  have hs := hp.1
  have hl := hp.2.1
  rcases q1 : inB k 0 12 with _ | _
  case false =>
    go_enter Try.func88, Try.ntmps88
    go_wp2_with fail
    have b0 := below_alloc1 w (.cells #[.int .i64 s, .slice A xs.length c] 27)
    have x0 := TBox.new w s (.slice A xs.length c) 27
    generalize w.alloc (.cells #[.int .i64 s, .slice A xs.length c] 27) = w0 at *
    have HX0 := Lib.hid x0
    have HB0 := Lib.hid b0
    clear x0 b0
    have y0_0 := HX0.out.1
    have y1_0 := HX0.out.2
    go_wp2_with fail
    refine (specTourOk s _ xs _ (HR.out.below HB0.out)).mono ?_
    rintro e w1 ⟨rfl, hb⟩
    have HX1 := Lib.hid (HX0.out.below hb)
    have HB1 := Lib.hid (Below.then HB0.out hb)
    clear hb HX0 HB0 y0_0 y1_0
    have y0_1 := HX1.out.1
    have y1_1 := HX1.out.2
    rw [q0]
    go_wp2_with fail
    refine (l01In_any _ _ _ _).mono ?_
    rintro e wz ⟨rfl, rfl⟩
    rw [q1]
    go_wp2
    go_ret
    exact ⟨_, rfl, by simp only [pwR, *]; exact Own.nil_ _ _, HB1.out⟩
  have hk := inB_true.1 q1
  go_enter Try.func88, Try.ntmps88
  go_wp2_with fail
  have b0 := below_alloc1 w (.cells #[.int .i64 s, .slice A xs.length c] 27)
  have x0 := TBox.new w s (.slice A xs.length c) 27
  generalize w.alloc (.cells #[.int .i64 s, .slice A xs.length c] 27) = w0 at *
  have HX0 := Lib.hid x0
  have HB0 := Lib.hid b0
  clear x0 b0
  have y0_0 := HX0.out.1
  have y1_0 := HX0.out.2
  go_wp2_with fail
  refine (specTourOk s _ xs _ (HR.out.below HB0.out)).mono ?_
  rintro e w1 ⟨rfl, hb⟩
  have HX1 := Lib.hid (HX0.out.below hb)
  have HB1 := Lib.hid (Below.then HB0.out hb)
  clear hb HX0 HB0 y0_0 y1_0
  have y0_1 := HX1.out.1
  have y1_1 := HX1.out.2
  rw [q0]
  go_wp2_with fail
  refine (l01In_any _ _ _ _).mono ?_
  rintro e wz ⟨rfl, rfl⟩
  rw [q1]
  have hF : Hid (pwR s xs k = pwL xs k.toNat) := by unfold Hid; simp [pwR, q0, q1]
  obtain ⟨m, rfl⟩ := Int.eq_ofNat_of_zero_le hk.1
  have hm12 : m ≤ 12 := by omega
  rw [show ((m : Int)).toNat = m from rfl] at hF
  obtain ⟨g, off, c', e, hc', hg, hx⟩ := tour_cells HR.out hp
  injection e with e1 _ e2
  subst e1 e2
  unfold maxLen at hc'
  have HXS := Lib.hid hx
  have HW := Lib.hid (fun j hj => (tour_wins hp (a := j) hj).2.2)
  have HM := Lib.hid (fun a ha => wins_mem hp (a := a) ha)
  clear hx hp q0 q1 hk
  generalize hn : xs.length = n at *
  have HN := Lib.hid hn
  clear hn
  obtain rfl : s = n := by omega
  have y1' := (HX1.out.below (below_alloc1 w1 (.cells #[] 3))).2
  have hsz1 := HB1.out.size
  go_wp2
  go_loopw [5, 25] (fun v i wr => ∃ (t : Nat), t ≤ n ∧ i = .int .i64 t ∧ Own wr w1.heap.size v (List.replicate t 1) ∧ Below w1.heap.size w1 wr) (fun _ i _ => n - (intOf i).toNat)
  case atStart => exact ⟨0, by omega, rfl, by simpa using Own.lit w1 w1.heap.size [] (Nat.le_refl _) (by simp), below_alloc1 _ _⟩
  case round =>
    obtain ⟨t, ht, rfl, hown, hb⟩ := hrel
    by_cases hlt : t < n
    · have hsz := hb.size
      go_wp2_with (at_builtin; refine wp_append1 _ rfl (.tmp 27) (.tmp 28) rfl w1.heap.size _ _ _ rfl hown rfl (by simp; omega) (by omega) ?_; intro v' w2 hown1 hg1)
      have hb1 := below_append hb hg1 hown (Nat.le_refl _) hsz
      go_roundw
      case rel => exact ⟨t + 1, by omega, by go_num, by rw [List.replicate_succ']; exact hown1, hb1⟩
      case measure => simp [intOf]; omega
    · obtain rfl : n = t := by omega
      obtain ⟨w3, rfl⟩ : ∃ x, x = wr := ⟨_, rfl⟩
      have HO3 := Lib.hid (hown.mono hsz1)
      have HX3 := Lib.hid (HX1.out.below hb)
      have HB3 := Lib.hid (Below.then HB1.out hb)
      clear hown hb y1' y0_1 y1_1
      go_wp2
      go_loopw [5, 6] (fun now i wr => ∃ (j : Nat) (V : Value), j ≤ m ∧ i = .int .i64 j ∧ now = V ∧ Own wr w.heap.size V (pwL xs j) ∧ Below w3.heap.size w3 wr) (fun _ i _ => m - (intOf i).toNat)
      case atStart => exact ⟨0, _, by omega, rfl, rfl, by rw [pwL, HN.out]; exact HO3.out, Below.refl _ _⟩
      case round =>
        obtain ⟨wo, rfl⟩ : ∃ x, x = wr := ⟨_, rfl⟩
        obtain ⟨j, V, hj, rfl, rfl, hown, hb⟩ := hrel
        have HO := Lib.hid hown
        have HB := Lib.hid hb
        have HXr := Lib.hid (HX3.out.below hb)
        have y0 := HXr.out.1
        have y1 := HXr.out.2
        clear hown hb
        by_cases hlt : j < m
        · have HPB := Lib.hid (pwL_bd xs j)
          have h8 := pw8 (show j ≤ 12 by omega)
          have h80 : (0 : Int) ≤ 8 ^ j := Int.pow_nonneg (by decide)
          have HST : Hid (pwL xs (j + 1) = pwStep xs (pwL xs j)) := rfl
          have hYl := pwL_len xs j
          rw [HN.out] at hYl
          generalize pwL xs j = Y at *
          generalize (8 : Int) ^ j = B at *
          obtain ⟨gv, cv, rfl, hgv, hcv, hnv, hyc, -⟩ := HO.out.at_ hYl (by omega)
          have hgv2 := (HO.out.lt gv rfl).2
          unfold maxLen at hcv
          have HYC := Lib.hid hyc
          have hwo := HB.out.size
          have hw3 := HB3.out.size
          clear hyc
          have y1' := (HXr.out.below (below_alloc1 wo (.cells #[] 3))).2
          go_wp2
          go_loopw [7, 40] (fun v i w5 => ∃ (a : Nat), a ≤ n ∧ i = .int .i64 a ∧ Own w5 wo.heap.size v ((List.range a).map (pwAt xs Y)) ∧ Below wo.heap.size wo w5) (fun _ i _ => n - (intOf i).toNat)
          case atStart => exact ⟨0, by omega, rfl, by simpa using Own.lit wo wo.heap.size [] (Nat.le_refl _) (by simp), below_alloc1 _ _⟩
          case round =>
            obtain ⟨wa, rfl⟩ : ∃ x, x = wr := ⟨_, rfl⟩
            obtain ⟨a, ha, rfl, hown, hb⟩ := hrel
            have HOa := Lib.hid hown
            have HBa := Lib.hid hb
            clear hown hb y1'
            by_cases hlta : a < n
            · have hB : Below w.heap.size w wa := Below.then (Below.then HB3.out HB.out) HBa.out
              have hxa := (hB.cell (p := ⟨g, off + a, none⟩) hg).trans (HXS.out a hlta)
              have h256 := HW.out a hlta
              have hmem := HM.out a hlta
              clear hB
              have HPT := Lib.hid (fun (t : Nat) (ht : t ≤ (memN (winsN xs a) 8).length) => pwT_bd' HPB.out h80 h8 a t ht)
              have HPS := Lib.hid (fun (t : Nat) (ht : t < (memN (winsN xs a) 8).length) => pwT_succ (ys := Y) ht)
              have HAT : Hid (pwT xs Y a (memN (winsN xs a) 8).length = pwAt xs Y a) := rfl
              have hm8 := memN_len (winsN xs a) 8
              go_wp2_with fail
              refine (l02List_any (winsN xs a) 8 _ h256 (by omega)).mono ?_
              rintro e w6 ⟨v6, rfl, ho6, hb6⟩
              obtain ⟨A6, d6, rfl, hd1, hd2, hl6⟩ := memL_cells ho6
              unfold maxLen at hd1
              have HL6 := Lib.hid hl6
              have HO6 := Lib.hid (HOa.out.below hb6)
              have HB6 := Lib.hid (Below.then HBa.out hb6)
              have HMEM := Lib.hid hmem
              clear ho6 hb6 hl6 hxa HOa HBa hmem
              generalize hLL : memN (winsN xs a) 8 = L at *
              generalize hLn : L.length = q at *
              have HLN := Lib.hid hLn
              clear hLn hLL
              go_wp2
              go_loop [10, 47] (fun v i => ∃ (t : Nat), t ≤ q ∧ i = .int .i64 t ∧ v = .int .i64 (pwT xs Y a t)) (fun _ i => q - (intOf i).toNat)
              case atStart => exact ⟨0, by omega, rfl, by rw [pwT_zero]⟩
              case round =>
                obtain ⟨t, ht, rfl, rfl⟩ := hrel
                have hP := HPT.out t (by omega)
                by_cases hltt : t < q
                · obtain ⟨g7, off7, rfl, hg7, hz⟩ := HL6.out (by omega)
                  have hzt := hz t hltt
                  have hbn := HMEM.out (L.getD t 0) (by rw [getD_nat (by rw [HLN.out]; exact hltt)]; exact List.getElem_mem _)
                  have hyb := (HB6.out.cell (p := ⟨gv, L.getD t 0, none⟩) hgv2).trans (HYC.out _ hbn)
                  have hPs := Lib.hid (HPS.out t hltt)
                  have hbd := HPB.out (L.getD t 0)
                  clear hz
                  generalize L.getD t 0 = b at *
                  generalize Y.getD b 0 = y at *
                  generalize hx : pwT xs Y a t = x at *
                  clear hx
                  go_wp2
                  go_round
                  case rel => exact ⟨t + 1, by omega, by go_num, by rw [hPs.out]⟩
                  case measure => simp [intOf]; omega
                · obtain rfl : t = q := by omega
                  have hsz6 := HB6.out.size
                  rw [HAT.out] at hP ⊢
                  have ho := HO6.out
                  have hlen : ((List.range a).map (pwAt xs Y)).length ≤ 8 := by simp; omega
                  have HMS := Lib.hid (pwMap_succ xs Y a)
                  generalize pwAt xs Y a = y at *
                  generalize (List.range a).map (pwAt xs Y) = X at *
                  go_wp2_with (at_builtin; refine wp_append1 _ rfl (.tmp 58) (.tmp 60) rfl wo.heap.size _ _ _ rfl ho (by simp [Act.eval]) (by omega) (by exact hsz6) ?_; intro v' w7 hown1 hg1; have HO7 := Lib.hid hown1; have HB7 := Lib.hid (below_append HB6.out hg1 ho (Nat.le_refl _) hsz6); clear hown1 hg1)
                  go_roundw
                  case rel => exact ⟨a + 1, by omega, by go_num, by rw [HMS.out]; exact HO7.out, HB7.out⟩
                  case measure => simp [intOf]; omega
            · obtain rfl : n = a := by omega
              have hE : (List.range n).map (pwAt xs Y) = pwStep xs Y := by rw [pwStep, HN.out]
              have HB3' := Lib.hid (Below.then HB.out HBa.out)
              rw [hE] at HOa
              go_wp2
              go_roundw
              case rel => exact ⟨j + 1, _, by omega, by go_num, rfl, by rw [HST.out]; have h1 := HOa.out.mono (show w.heap.size ≤ wo.heap.size by omega); exact h1, HB3'.out⟩
              case measure => simp [intOf]; omega
        · obtain rfl : j = m := by omega
          go_wp2
          go_ret
          exact ⟨_, rfl, by rw [hF.out]; exact HO.out, Below.then HB3.out HB.out⟩
end Go.Proofs.Ytoblhnfnjagajab
