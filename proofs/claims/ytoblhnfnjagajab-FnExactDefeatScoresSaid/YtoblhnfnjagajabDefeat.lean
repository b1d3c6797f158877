/- FnExactDefeatScores: the functions. -/
import Derived.Test.YtoblhnfnjagajabPow
import Derived.Test.YtoblhnfnjagajabClimb
namespace Go.Proofs.Ytoblhnfnjagajab
open Go.RowKit Go.Sort

/-- a player's score -/
def scN (xs : List Int) (b : Nat) : Int := (popN 8 (winsN xs b) : Nat)
/-- the defeats against the first t who beat a -/
def lsT (xs : List Int) (a t : Nat) : Int := (((loseN xs a xs.length).take t).map fun b => (xs.length : Int) - 1 - scN xs b).sum
def dsAt (xs : List Int) (a : Nat) : Int := pwAt xs (pwL xs 1) a - lsT xs a (loseN xs a xs.length).length
def dsL (xs : List Int) : List Int := (List.range xs.length).map (dsAt xs)
noncomputable def dsR (s : Int) (xs : List Int) : List Int := if tourB s xs = true then dsL xs else []
theorem dsR_len (s : Int) (xs : List Int) : (dsR s xs).length ≤ 8 := by
  unfold dsR
  split
  · rename_i h
    have := (tourB_true.1 h).1
    have := (tourB_true.1 h).2.1
    simp [dsL]; omega
  · simp
theorem scN_bd (xs : List Int) (b : Nat) : 0 ≤ scN xs b ∧ scN xs b ≤ 8 := by
  have := popN_le 8 (winsN xs b)
  unfold scN; omega
theorem loseN_len (xs : List Int) (a k : Nat) : (loseN xs a k).length ≤ k := by
  unfold loseN
  refine Nat.le_trans (List.length_filter_le _ _) ?_
  rw [List.length_range]; exact Nat.le_refl _
theorem sum_bd2 {l : List Nat} {F : Nat → Int} {B : Int} (h : ∀ b ∈ l, -B ≤ F b ∧ F b ≤ B) : -(B * l.length) ≤ (l.map F).sum ∧ (l.map F).sum ≤ B * l.length := by
  induction l with
  | nil => simp
  | cons b l ih =>
    have ih := ih fun c hc => h c (by simp [hc])
    have hb := h b (by simp)
    have : B * ((b :: l).length : Int) = B * (l.length : Int) + B := by rw [List.length_cons, Int.natCast_add, Int.mul_add]; simp
    rw [List.map_cons, List.sum_cons]
    omega
theorem lsT_bd {xs : List Int} (h8 : xs.length ≤ 8) (a t : Nat) : -128 ≤ lsT xs a t ∧ lsT xs a t ≤ 128 := by
  have := sum_bd2 (l := (loseN xs a xs.length).take t) (F := fun b => (xs.length : Int) - 1 - scN xs b) (B := 16) (fun b _ => by have := scN_bd xs b; omega)
  have h1 : ((loseN xs a xs.length).take t).length ≤ 8 := by rw [List.length_take]; have := loseN_len xs a xs.length; omega
  unfold lsT
  omega
theorem lsT_succ {xs : List Int} {a t : Nat} (h : t < (loseN xs a xs.length).length) : lsT xs a (t + 1) = lsT xs a t + ((xs.length : Int) - 1 - scN xs ((loseN xs a xs.length).getD t 0)) := by
  unfold lsT
  rw [take_snocN h, List.map_append, List.sum_append, getD_nat h]
  simp
theorem lsT_zero (xs : List Int) (a : Nat) : lsT xs a 0 = 0 := by simp [lsT]
theorem pw1_at {s : Int} {xs : List Int} (hp : tourP s xs) {b : Nat} (hb : b < xs.length) : (pwL xs 1).getD b 0 = scN xs b := by
  rw [show pwL xs 1 = pwStep xs (pwL xs 0) from rfl, pwStep_at hb]
  unfold pwAt pwT scN
  rw [List.take_length, pop_mem (tour_wins hp hb).2.2]
  have : ∀ c ∈ memN (winsN xs b) 8, (pwL xs 0).getD c 0 = 1 := fun c hc => by
    have := wins_mem hp hb c hc
    simp [pwL, this]
  rw [List.map_congr_left this]
  generalize memN (winsN xs b) 8 = l
  clear this
  induction l with
  | nil => rfl
  | cons c l ih => rw [List.map_cons, List.sum_cons, ih, List.length_cons]; omega
/-- the row that grows: the power scores, what is lost taken off below a, the first t at a -/
def dsRow (xs P N : List Int) (n a t : Nat) : Prop := ∀ i, i < n → N.getD i 0 = if i < a then P.getD i 0 - lsT xs i (loseN xs i xs.length).length else if i = a then P.getD a 0 - lsT xs a t else P.getD i 0
theorem dsRow_start {xs P : List Int} {n : Nat} : dsRow xs P P n 0 0 := fun i _ => by
  by_cases h : i = 0
  · subst h; simp [lsT_zero]
  · simp [h]
theorem dsRow_next {xs P N : List Int} {n a : Nat} (h : dsRow xs P N n a (loseN xs a xs.length).length) : dsRow xs P N n (a + 1) 0 := fun i hi => by
  rw [h i hi, lsT_zero]
  by_cases h1 : i < a
  · rw [if_pos h1, if_pos (by omega)]
  · rw [if_neg h1]
    by_cases h2 : i = a
    · subst h2; rw [if_pos rfl, if_pos (by omega)]
    · rw [if_neg h2, if_neg (by omega)]
      by_cases h3 : i = a + 1
      · subst h3; simp
      · rw [if_neg h3]
theorem dsRow_step {xs P N : List Int} {n a t : Nat} {v : Int} (hl : N.length = n) (h : dsRow xs P N n a t) (ha : a < n) (hv : P.getD a 0 - lsT xs a (t + 1) = v) : dsRow xs P (N.set a v) n a (t + 1) := fun i hi => by
  by_cases h2 : i = a
  · subst h2
    rw [getD_set_same _ (by omega), if_neg (by omega), if_pos rfl, hv]
  · rw [getD_set_other _ (Ne.symm h2), h i hi, if_neg h2, if_neg h2]
theorem dsRow_at {xs P N : List Int} {n a t : Nat} (h : dsRow xs P N n a t) (ha : a < n) : N.getD a 0 = P.getD a 0 - lsT xs a t := by
  rw [h a ha, if_neg (by omega), if_pos rfl]
theorem dsRow_end {xs N : List Int} {n : Nat} (hn : xs.length = n) (hl : N.length = n) (h : dsRow xs (pwL xs 2) N n n 0) : N = dsL xs :=
  list_ext0 hl (by simp [dsL, hn]) fun i hi => by
    rw [h i hi, if_pos hi, show pwL xs 2 = pwStep xs (pwL xs 1) from rfl, pwStep_at (by omega)]
    simp [dsL, dsAt, show i < xs.length by omega]
set_option maxHeartbeats 4000000 in
set_option maxRecDepth 100000 in
theorem implDefeat (s : Int) (sl : Value) (xs : List Int) (w : World) (h : Rd w sl xs) :
    Calls Try.prog 32 #[.agg #[.int .i64 s, sl]] w fun e w' => ∃ v', e = .returned v' ∧ Own w' w.heap.size v' (dsR s xs) ∧ Below w.heap.size w w' := by
  have HR := Lib.hid h
  obtain ⟨A, c, rfl, -, hmc, -⟩ := h
  unfold maxLen at hmc
  rcases q0 : tourB s xs with _ | _
  case false =>
    go_enter Try.func32, Try.ntmps32
    go_wp2_with fail
    have b0 := below_alloc1 w (.cells #[.int .i64 s, .slice A xs.length c] 27)
    have x0 := TBox.new w s (.slice A xs.length c) 27
    generalize w.alloc (.cells #[.int .i64 s, .slice A xs.length c] 27) = w0 at *
    have HX0 := Lib.hid x0
    have HB0 := Lib.hid b0
    clear x0 b0
    have y0_0 := HX0.out.1
    have y1_0 := HX0.out.2
    go_wp2_with fail
    refine (implTourOk s _ xs _ (HR.out.below HB0.out)).mono ?_
    rintro e w1 ⟨rfl, hb⟩
    have HX1 := Lib.hid (HX0.out.below hb)
    have HB1 := Lib.hid (Below.then HB0.out hb)
    clear hb HX0 HB0 y0_0 y1_0
    have y0_1 := HX1.out.1
    have y1_1 := HX1.out.2
    rw [q0]
    go_wp2
    go_ret
    exact ⟨_, rfl, by simp only [dsR, *]; exact Own.nil_ _ _, HB1.out⟩
  have hp := tourB_true.1 q0
  have hs := hp.1
  have hl := hp.2.1
  go_enter Try.func32, Try.ntmps32
  go_wp2_with fail
  have b0 := below_alloc1 w (.cells #[.int .i64 s, .slice A xs.length c] 27)
  have x0 := TBox.new w s (.slice A xs.length c) 27
  generalize w.alloc (.cells #[.int .i64 s, .slice A xs.length c] 27) = w0 at *
  have HX0 := Lib.hid x0
  have HB0 := Lib.hid b0
  clear x0 b0
  have y0_0 := HX0.out.1
  have y1_0 := HX0.out.2
  go_wp2_with fail
  refine (implTourOk s _ xs _ (HR.out.below HB0.out)).mono ?_
  rintro e w1 ⟨rfl, hb⟩
  have HX1 := Lib.hid (HX0.out.below hb)
  have HB1 := Lib.hid (Below.then HB0.out hb)
  clear hb HX0 HB0 y0_0 y1_0
  have y0_1 := HX1.out.1
  have y1_1 := HX1.out.2
  rw [q0]
  have hF : Hid (dsR s xs = dsL xs) := by unfold Hid; simp [dsR, q0]
  have hPW : Hid (pwR s xs 2 = pwL xs 2) := by unfold Hid; simp [pwR, q0, inB]
  have HT := Lib.hid hp
  have HPl := pwL_len xs 2
  have HPB := Lib.hid (pwL_bd xs 2)
  have hn8 : xs.length ≤ 8 := by omega
  go_wp2_with fail
  refine (implPower s _ xs 2 _ (HR.out.below HB1.out)).mono ?_
  rintro e w3 ⟨v3, rfl, ho3, hb3⟩
  rw [hPW.out] at ho3
  have HSTART : Hid (dsRow xs (pwL xs 2) (pwL xs 2) xs.length 0 0) := dsRow_start
  generalize hPP : pwL xs 2 = P at *
  have HP2 := Lib.hid hPP
  obtain ⟨gl, cl, rfl, hgl, hcl, hnl, -, -⟩ := ho3.at_ HPl (by omega)
  have hgl3 := (ho3.lt gl rfl).2
  unfold maxLen at hcl
  have hsz1 := HB1.out.size
  have hwg := World.block_lt_of_cell? w1 _ HX1.out.1
  have HX3 := Lib.hid (HX1.out.below hb3)
  have HO3 := Lib.hid ho3
  have HB3 := Lib.hid hb3
  obtain ⟨g, off, c', e, -, hg, hx⟩ := tour_cells HR.out hp
  injection e with e1 _ e2
  subst e1 e2
  have HLL := Lib.hid (fun (a : Nat) (ha : a < xs.length) => loss_list hp ha)
  have HLT := Lib.hid (fun (a : Nat) (ha : a < xs.length) => (show lossN xs a < 2 ^ xs.length from less_lt (less_full_lt' _ _)))
  have HLS := Lib.hid (fun (a t : Nat) => lsT_bd (xs := xs) hn8 a t)
  clear hx
  generalize hn : xs.length = n at *
  have HN := Lib.hid hn
  clear hn hp q0 ho3 hb3 y0_1 y1_1 hPP
  obtain rfl : s = n := by omega
  go_wp2
  go_loopw [14] (fun i wr => ∃ (a : Nat) (N : List Int), a ≤ n ∧ i = .int .i64 a ∧ N.length = n ∧ Own wr w1.heap.size (.slice (some ⟨gl, 0, none⟩) n cl) N ∧ Hid (dsRow xs P N n a 0) ∧ Below w1.heap.size w1 wr) (fun i _ => n - (intOf i).toNat)
  case atStart => exact ⟨0, P, by omega, rfl, HPl, HO3.out, HSTART.out, HB3.out⟩
  case round =>
    obtain ⟨wa, rfl⟩ : ∃ x, x = wr := ⟨_, rfl⟩
    obtain ⟨a, N, ha, rfl, hNl, hown, HP, hb⟩ := hrel
    have HOa := Lib.hid hown
    have HBa := Lib.hid hb
    have HXa := Lib.hid (HX1.out.below hb)
    clear hown hb
    have y0_0 := HXa.out.1
    have y1_0 := HXa.out.2
    by_cases hlta : a < n
    · have hlose := loseN_len xs a n
      have hls := Lib.hid (fun (t : Nat) (ht : t < (loseN xs a xs.length).length) => lsT_succ ht)
      rw [HN.out] at hls
      have hll := HLL.out a hlta
      go_wp2_with fail
      refine (losses_any n (.slice (some ⟨g, off, none⟩) n c) xs a _ (HR.out.below (Below.then HB1.out HBa.out)) HT.out (by rw [HN.out]; exact hlta)).mono ?_
      rintro e w5 ⟨rfl, hb5⟩
      have HO5 := Lib.hid (HOa.out.below hb5)
      have HB5 := Lib.hid (Below.then HBa.out hb5)
      have hsa := HBa.out.size
      have hg5 := HOa.out.lt gl rfl
      have hs5 := hb5.size
      clear hb5 y0_0 y1_0
      go_wp2_with fail
      refine (membersOf_any (lossN xs a) n _ (HLT.out a hlta) (by omega)).mono ?_
      rintro e w6 ⟨v6, rfl, ho6, hb6⟩
      obtain ⟨A6, d6, rfl, hd1, hd2, hl6⟩ := memL_cells ho6
      unfold maxLen at hd1
      have HO6 := Lib.hid (HO5.out.below hb6)
      have HB6 := Lib.hid (Below.then HB5.out hb6)
      rw [hll] at hd2 ho6 ⊢
      have HO66 := Lib.hid ho6
      have HMEM : Hid (∀ b ∈ loseN xs a n, b < n) := fun b hb => (mem_loseN.1 hb).1
      clear ho6 hb6 hl6 HOa HBa
      have HLL2 := Lib.hid hll
      clear hll
      generalize hLL : loseN xs a n = L at *
      generalize hLn : L.length = q at *
      have HLN := Lib.hid hLn
      clear hLn
      go_wp2
      go_loopw [22] (fun i w7 => ∃ (t : Nat) (M : List Int), t ≤ q ∧ i = .int .i64 t ∧ M.length = n ∧ Own w7 w1.heap.size (.slice (some ⟨gl, 0, none⟩) n cl) M ∧ Hid (dsRow xs P M n a t) ∧ Own w7 w5.heap.size (.slice A6 q d6) (memL (lossN xs a) n) ∧ Below w1.heap.size w1 w7) (fun i _ => q - (intOf i).toNat)
      case atStart => exact ⟨0, N, by omega, rfl, hNl, HO6.out, HP, HO66.out, HB6.out⟩
      case round =>
        obtain ⟨t, M, ht, rfl, hMl, hown, HP7, ho7, hb⟩ := hrel
        by_cases hltt : t < q
        · obtain ⟨g7, off7, rfl, hg7, hz⟩ := memL_cells' ho7 (by rw [HLL2.out]; exact HLN.out) (by omega)
          have hzt := hz t hltt
          rw [HLL2.out] at hzt
          have hbn := HMEM.out (L.getD t 0) (by rw [getD_nat (by rw [HLN.out]; exact hltt)]; exact List.getElem_mem _)
          obtain ⟨hx7, hf7⟩ := hown.at1 hMl (by omega)
          have za := hx7 a hlta
          rw [dsRow_at HP7.out hlta] at za
          have hbd := HLS.out a t
          have hPs := Lib.hid (hls.out t hltt)
          have hsc := scN_bd xs (L.getD t 0)
          have hpb := HPB.out a
          have HO7 := Lib.hid hown
          have HM7 := Lib.hid ho7
          have HB7 := Lib.hid hb
          have HX7 := Lib.hid (HX1.out.below hb)
          have k1 := quiet_below (w := wr) (fun W hW => score_any n (.slice (some ⟨g, off, none⟩) n c) xs (L.getD t 0) W (HR.out.below (Below.then (Below.then HB1.out hb) hW)) HT.out (by rw [HN.out]; exact hbn))
          have hSC : Hid (((popN 8 (winsN xs (L.getD t 0)) : Nat) : Int) = scN xs (L.getD t 0)) := rfl
          rw [hSC.out] at k1
          clear hz hx7 hf7 hown ho7 hb
          have y0 := HX7.out.1
          have y1 := HX7.out.2
          generalize L.getD t 0 = b at *
          generalize lsT xs a t = x at *
          generalize hpg : P.getD a 0 = p at *
          have HPG := Lib.hid hpg
          clear hpg
          generalize scN xs b = y at *
          go_wp2_with fail
          have c0 := cell_regrown y0
          have c1 := cell_regrown y1
          have c2 := cell_regrown za
          clear hzt za y0 y1
          refine wp_region_below_tail 13 (by kernel_rfl) (by kernel_rfl) ?_
          simp only [List.take_succ_cons, List.take_zero, List.drop_succ_cons, List.drop_zero]
          repeat (go_big_quiet_step (first | (with_reducible exact k1 _ _)))
          refine wpQuiet_nil ?_
          intro wq hbq0
          have hbq := Lib.hid hbq0
          clear hbq0
          clear c0 c1 c2 k1
          have O2 := HO7.out.below hbq.out
          obtain ⟨hx2, hf2⟩ := O2.at1 hMl (by omega)
          have za := hx2 a hlta
          have fa := hf2 a
          have HO3 := Lib.hid (O2.set_ hMl a (p - x - (n - 1 - y))).1
          have HM3 := Lib.hid ((HM7.out.below hbq.out).kept (setCell_grown _ ⟨gl, a, none⟩ (.int .i64 (p - x - (n - 1 - y)))) (own_ne (fun k hk => (HM7.out.lt k hk).1) (show gl < w5.heap.size by omega)))
          have hsz7 := HB7.out.size
          have HB8 := Lib.hid ((Below.then HB7.out hbq.out).setCell (p := ⟨gl, a, none⟩) hgl (.int .i64 (p - x - (n - 1 - y))))
          clear hx2 hf2 O2 HO7 HM7 HB7
          go_wp2
          go_roundw
          case rel => exact ⟨t + 1, M.set a (p - x - (n - 1 - y)), by omega, by go_num, by rw [List.length_set]; exact hMl, HO3.out, dsRow_step hMl HP7.out hlta (by rw [hPs.out, HPG.out]; omega), HM3.out, HB8.out⟩
          case measure => simp [intOf]; omega
        · obtain rfl : t = q := by omega
          have HP8 : Hid (dsRow xs P M n (a + 1) 0) := dsRow_next (by rw [HN.out, hLL, HLN.out]; exact HP7.out)
          have HOM := Lib.hid hown
          have HBM := Lib.hid hb
          clear hown hb
          go_wp2
          go_roundw
          case rel => exact ⟨a + 1, M, by omega, by go_num, hMl, HOM.out, HP8.out, HBM.out⟩
          case measure => simp [intOf]; omega
    · obtain rfl : n = a := by omega
      have HE := Lib.hid (dsRow_end HN.out hNl (by rw [HP2.out]; exact HP.out))
      go_wp2
      go_ret
      exact ⟨_, rfl, by rw [hF.out, ← HE.out]; exact HOa.out.mono hsz1, Below.then HB1.out HBa.out⟩
def scL (xs : List Int) (k : Nat) : List Int := (List.range k).map (scN xs)
theorem scL_succ (xs : List Int) (k : Nat) : scL xs (k + 1) = scL xs k ++ [scN xs k] := by unfold scL; rw [List.range_succ, List.map_append]; rfl
theorem scL_len (xs : List Int) (k : Nat) : (scL xs k).length = k := by simp [scL]
theorem scL_at (xs : List Int) {k b : Nat} (h : b < k) : (scL xs k).getD b 0 = scN xs b := by simp [scL, h]
set_option maxHeartbeats 1000000 in
theorem l02Scores_any (s : Int) (sl : Value) (xs : List Int) (w : World) (h : Rd w sl xs) (hp : tourP s xs) :
    Calls Try.prog 73 #[.agg #[.int .i64 s, sl]] w fun e w' => ∃ v', e = .returned v' ∧ Own w' w.heap.size v' (scL xs xs.length) ∧ Below w.heap.size w w' := by
  obtain ⟨g, off, c, rfl, hm, hg, hx⟩ := tour_cells h hp
  unfold maxLen at hm
  have hs := hp.1
  have hsl := hp.2.1
  have HXS := Lib.hid hx
  have HW := Lib.hid (fun j hj => (tour_wins hp (a := j) hj).2.2)
  clear hp h hx
  generalize hn : xs.length = n at *
  obtain rfl : s = n := by omega
  clear hn
  go_enter Try.func73, Try.ntmps73
  have x0 := (TBox.new w n (.slice (some ⟨g, off, none⟩) n c) 27).below (below_alloc1 _ (.cells #[] 3))
  have y0' := x0.1
  have y1' := x0.2
  have HB0 := Lib.hid ((below_alloc1 w (.cells #[.int .i64 n, .slice (some ⟨g, off, none⟩) n c] 27)).alloc (by simp) (.cells #[] 3))
  have HL0 := Lib.hid (Own.lit (w.alloc (.cells #[.int .i64 n, .slice (some ⟨g, off, none⟩) n c] 27)) w.heap.size [] (by simp) (by simp))
  simp only [World.size_alloc] at HL0
  clear x0
  go_wp2
  go_loopw [3, 10] (fun v i wr => ∃ (a : Nat), a ≤ n ∧ i = .int .i64 a ∧ Own wr w.heap.size v (scL xs a) ∧ Below w.heap.size w wr) (fun _ i _ => n - (intOf i).toNat)
  case atStart => exact ⟨0, by omega, rfl, by simpa [scL] using HL0.out, HB0.out⟩
  case round =>
    obtain ⟨a, ha, rfl, hown, hb⟩ := hrel
    have HOa := Lib.hid hown
    have HBa := Lib.hid hb
    clear hown hb y0' y1'
    by_cases hlt : a < n
    · have hxa := ((HBa.out).cell (p := ⟨g, off + a, none⟩) hg).trans (HXS.out a hlt)
      have h256 := HW.out a hlt
      have hsz := HBa.out.size
      have HMS := Lib.hid (scL_succ xs a)
      have hSC : Hid (((popN 8 (winsN xs a) : Nat) : Int) = scN xs a) := rfl
      have hlen := scL_len xs a
      have hsc := scN_bd xs a
      have ho := HOa.out
      generalize winsN xs a = W at *
      go_wp2_with fail
      refine (l02Bits_any W _ h256).mono ?_
      rintro e wz ⟨rfl, rfl⟩
      rw [hSC.out]
      clear hSC
      generalize scN xs a = y at *
      generalize scL xs a = X at *
      go_wp2_with (at_builtin; refine wp_append1 _ rfl (.tmp 14) (.tmp 17) rfl w.heap.size _ _ _ rfl ho (by simp [Act.eval]) (by omega) (by exact hsz) ?_; intro v' w7 hown1 hg1; have HO7 := Lib.hid hown1; have HB7 := Lib.hid (below_append HBa.out hg1 ho (Nat.le_refl _) hsz); clear hown1 hg1)
      go_roundw
      case rel => exact ⟨a + 1, by omega, by go_num, by rw [HMS.out]; exact HO7.out, HB7.out⟩
      case measure => simp [intOf]; omega
    · obtain rfl : n = a := by omega
      go_wp2
      go_ret
      exact ⟨_, rfl, HOa.out, HBa.out⟩
/-- the sum over the players below b: what a wins, less what a loses -/
def spA (xs : List Int) (a b : Nat) : Int := ((memN (winsN xs a) b).map (scN xs)).sum - ((loseN xs a b).map fun c => (xs.length : Int) - 1 - scN xs c).sum
theorem spA_zero (xs : List Int) (a : Nat) : spA xs a 0 = 0 := by simp [spA, memN, loseN]
theorem spA_succ (xs : List Int) (a b : Nat) : spA xs a (b + 1) = spA xs a b + (if (winsN xs a).testBit b = true then scN xs b else 0) - (if bitI (xs.getD b 0) a = true then (xs.length : Int) - 1 - scN xs b else 0) := by
  unfold spA
  rw [memN_succ, loseN_succ, List.map_append, List.map_append, List.sum_append, List.sum_append]
  split <;> split <;> simp <;> omega
theorem spA_bd {xs : List Int} (h8 : xs.length ≤ 8) (a b : Nat) (hb : b ≤ xs.length) : -256 ≤ spA xs a b ∧ spA xs a b ≤ 256 := by
  have h1 := sum_bd2 (l := memN (winsN xs a) b) (F := scN xs) (B := 8) (fun b _ => by have := scN_bd xs b; omega)
  have h2 := sum_bd2 (l := loseN xs a b) (F := fun b => (xs.length : Int) - 1 - scN xs b) (B := 16) (fun b _ => by have := scN_bd xs b; omega)
  have h3 := memN_len (winsN xs a) b
  have h4 := loseN_len xs a b
  unfold spA
  omega
theorem spA_end {s : Int} {xs : List Int} (hp : tourP s xs) {a : Nat} (ha : a < xs.length) : spA xs a xs.length = dsAt xs a := by
  have h8 : xs.length ≤ 8 := by have := hp.1; have := hp.2.1; omega
  have hw : winsN xs a < 2 ^ xs.length := by
    have := (tour_wins hp ha).2.1
    rwa [show s.toNat = xs.length by have := hp.2.1; omega] at this
  have e : memN (winsN xs a) 8 = memN (winsN xs a) xs.length := memN_top h8 (Nat.div_eq_of_lt hw)
  unfold spA dsAt pwAt pwT lsT
  rw [List.take_length, List.take_length, e]
  congr 2
  refine List.map_congr_left fun c hc => ?_
  exact (pw1_at hp (by have := (mem_memN.1 hc).1; omega)).symm
set_option maxHeartbeats 4000000 in
theorem specDefeat (s : Int) (sl : Value) (xs : List Int) (w : World) (h : Rd w sl xs) :
    Calls Try.prog 31 #[.agg #[.int .i64 s, sl]] w fun e w' => ∃ v', e = .returned v' ∧ Own w' w.heap.size v' (dsR s xs) ∧ Below w.heap.size w w' := by
  have HR := Lib.hid h
  obtain ⟨A, c, rfl, -, hmc, -⟩ := h
  unfold maxLen at hmc
  rcases q0 : tourB s xs with _ | _
  case false =>
    go_enter Try.func31, Try.ntmps31
    go_wp2_with fail
    have b0 := below_alloc1 w (.cells #[.int .i64 s, .slice A xs.length c] 27)
    have x0 := TBox.new w s (.slice A xs.length c) 27
    generalize w.alloc (.cells #[.int .i64 s, .slice A xs.length c] 27) = w0 at *
    have HX0 := Lib.hid x0
    have HB0 := Lib.hid b0
    clear x0 b0
    have y0_0 := HX0.out.1
    have y1_0 := HX0.out.2
    go_wp2_with fail
    refine (specTourOk s _ xs _ (HR.out.below HB0.out)).mono ?_
    rintro e w1 ⟨rfl, hb⟩
    have HX1 := Lib.hid (HX0.out.below hb)
    have HB1 := Lib.hid (Below.then HB0.out hb)
    clear hb HX0 HB0 y0_0 y1_0
    have y0_1 := HX1.out.1
    have y1_1 := HX1.out.2
    rw [q0]
    go_wp2
    go_ret
    exact ⟨_, rfl, by simp only [dsR, *]; exact Own.nil_ _ _, HB1.out⟩
  have hp := tourB_true.1 q0
  have hs := hp.1
  have hl := hp.2.1
  go_enter Try.func31, Try.ntmps31
  go_wp2_with fail
  have b0 := below_alloc1 w (.cells #[.int .i64 s, .slice A xs.length c] 27)
  have x0 := TBox.new w s (.slice A xs.length c) 27
  generalize w.alloc (.cells #[.int .i64 s, .slice A xs.length c] 27) = w0 at *
  have HX0 := Lib.hid x0
  have HB0 := Lib.hid b0
  clear x0 b0
  have y0_0 := HX0.out.1
  have y1_0 := HX0.out.2
  go_wp2_with fail
  refine (specTourOk s _ xs _ (HR.out.below HB0.out)).mono ?_
  rintro e w1 ⟨rfl, hb⟩
  have HX1 := Lib.hid (HX0.out.below hb)
  have HB1 := Lib.hid (Below.then HB0.out hb)
  clear hb HX0 HB0 y0_0 y1_0
  have y0_1 := HX1.out.1
  have y1_1 := HX1.out.2
  rw [q0]
  have hF : Hid (dsR s xs = dsL xs) := by unfold Hid; simp [dsR, q0]
  have hn8 : xs.length ≤ 8 := by omega
  go_wp2_with fail
  refine (l02Scores_any s _ xs _ (HR.out.below HB1.out) hp).mono ?_
  rintro e w3 ⟨v3, rfl, ho3, hb3⟩
  obtain ⟨gv, cv, rfl, hgv, hcv, hnv, hyc, -⟩ := ho3.at_ (scL_len xs xs.length) (by omega)
  have hgv3 := (ho3.lt gv rfl).2
  unfold maxLen at hcv
  have HYC : Hid (∀ k, k < xs.length → w3.cell? ⟨gv, k, none⟩ = some (.int .i64 (scN xs k))) := fun k hk => by rw [hyc k hk, scL_at xs hk]
  have hsz1 := HB1.out.size
  have hsz3 := hb3.size
  have HX3 := Lib.hid (HX1.out.below hb3)
  have HB3 := Lib.hid (Below.then HB1.out hb3)
  obtain ⟨g, off, c', e, -, hg, hx⟩ := tour_cells HR.out hp
  injection e with e1 _ e2
  subst e1 e2
  have HBIT := Lib.hid (fun (a b : Nat) (ha : a < xs.length) => bit_nat hp (a := a) (b := b) ha)
  have HSP := Lib.hid (fun (a b : Nat) (hb : b ≤ xs.length) => spA_bd hn8 a b hb)
  have HSS := Lib.hid (fun (a b : Nat) => spA_succ xs a b)
  have HSE := Lib.hid (fun (a : Nat) (ha : a < xs.length) => spA_end hp ha)
  have HT := Lib.hid hp
  clear hx hp q0 ho3 hb3 hyc y0_1 y1_1
  generalize hn : xs.length = n at *
  have HN := Lib.hid hn
  clear hn
  obtain rfl : s = n := by omega
  have y1' := (HX3.out.below (below_alloc1 w3 (.cells #[] 3))).2
  go_wp2
  go_loopw [4, 17] (fun v i wr => ∃ (a : Nat), a ≤ n ∧ i = .int .i64 a ∧ Own wr w3.heap.size v ((List.range a).map (dsAt xs)) ∧ Below w3.heap.size w3 wr) (fun _ i _ => n - (intOf i).toNat)
  case atStart => exact ⟨0, by omega, rfl, by simpa using Own.lit w3 w3.heap.size [] (Nat.le_refl _) (by simp), below_alloc1 _ _⟩
  case round =>
    obtain ⟨wa, rfl⟩ : ∃ x, x = wr := ⟨_, rfl⟩
    obtain ⟨a, ha, rfl, hown, hb⟩ := hrel
    have HOa := Lib.hid hown
    have HBa := Lib.hid hb
    have HXa := Lib.hid (HX3.out.below hb)
    clear hown hb y1'
    have y0 := HXa.out.1
    have y1 := HXa.out.2
    by_cases hlta : a < n
    · go_wp2
      go_loopw [6, 23] (fun v i w5 => ∃ (b : Nat), b ≤ n ∧ i = .int .i64 b ∧ v = .int .i64 (spA xs a b) ∧ Below wa.heap.size wa w5) (fun _ i _ => n - (intOf i).toNat)
      case atStart => exact ⟨0, by omega, rfl, by rw [spA_zero], Below.refl _ _⟩
      case round =>
        obtain ⟨b, hbn, rfl, rfl, hb⟩ := hrel
        have HBr := Lib.hid hb
        have HXr := Lib.hid (HXa.out.below hb)
        clear hb y0 y1
        have y0 := HXr.out.1
        have y1 := HXr.out.2
        by_cases hlt : b < n
        · have hbd := HSP.out a b hbn
          have hsc := scN_bd xs b
          have HB5 := Lib.hid (Below.then (Below.then HB3.out HBa.out) HBr.out)
          have hss := HSS.out a b
          rw [← HBIT.out a b hlta] at hss
          have HS := Lib.hid hss
          clear hss
          rcases q1 : bitI (xs.getD a 0) b with _ | _
          · go_wp2_with fail
            refine (l02Beats_any n _ xs a b _ (HR.out.below HB5.out) (by omega) (by rw [HN.out]; omega) (by omega) (by omega)).mono ?_
            rintro e w6 ⟨rfl, hb6⟩
            rw [show (a : Int).toNat = a from rfl, show (b : Int).toNat = b from rfl, q1]
            have HX6 := Lib.hid (HXr.out.below hb6)
            have HB6 := Lib.hid (Below.then HBr.out hb6)
            have HB56 := Lib.hid (Below.then HB5.out hb6)
            clear hb6 y0 y1
            have y0 := HX6.out.1
            have y1 := HX6.out.2
            rcases q2 : bitI (xs.getD b 0) a with _ | _
            · go_wp2_with fail
              refine (l02Beats_any n _ xs b a _ (HR.out.below HB56.out) (by omega) (by rw [HN.out]; omega) (by omega) (by omega)).mono ?_
              rintro e w7 ⟨rfl, hb7⟩
              rw [show (a : Int).toNat = a from rfl, show (b : Int).toNat = b from rfl, q2]
              have HB7 := Lib.hid (Below.then HB6.out hb7)
              clear hb7 y0 y1
              go_wp2
              go_roundw
              case rel => exact ⟨b + 1, by omega, by go_num, by rw [HS.out, q1, q2]; simp, HB7.out⟩
              case measure => simp [intOf]; omega
            · go_wp2_with fail
              refine (l02Beats_any n _ xs b a _ (HR.out.below HB56.out) (by omega) (by rw [HN.out]; omega) (by omega) (by omega)).mono ?_
              rintro e w7 ⟨rfl, hb7⟩
              rw [show (a : Int).toNat = a from rfl, show (b : Int).toNat = b from rfl, q2]
              have HB7 := Lib.hid (Below.then HB6.out hb7)
              have HX7 := HX6.out.below hb7
              have hyb := ((Below.then HBa.out HB7.out).cell (p := ⟨gv, b, none⟩) hgv3).trans (HYC.out b hlt)
              have HS2 : Hid (spA xs a (b + 1) = spA xs a b - ((n : Int) - 1 - scN xs b)) := by unfold Hid; rw [HS.out, q1, q2]; simp
              clear hb7 y0 y1
              have c0 := cell_regrown HX7.1
              have c2 := cell_regrown hyb
              clear hyb HX7
              generalize scN xs b = y at *
              generalize hsx : spA xs a b = x at *
              clear hsx
              go_wp2_with fail
              refine wp_region_below (by kernel_rfl) (by kernel_rfl) ?_
              repeat (go_big_quiet_step (first | (with_reducible fail)))
              refine wpQuiet_nil ?_
              intro wq hbq0
              have HB8 := Lib.hid (Below.then HB7.out hbq0)
              clear hbq0 c0 c2
              go_wp2
              go_roundw
              case rel => exact ⟨b + 1, by omega, by go_num, by rw [HS2.out], HB8.out⟩
              case measure => simp [intOf]; omega
          · go_wp2_with fail
            refine (l02Beats_any n _ xs a b _ (HR.out.below HB5.out) (by omega) (by rw [HN.out]; omega) (by omega) (by omega)).mono ?_
            rintro e w6 ⟨rfl, hb6⟩
            rw [show (a : Int).toNat = a from rfl, show (b : Int).toNat = b from rfl, q1]
            have HX6 := Lib.hid (HXr.out.below hb6)
            have HB6 := Lib.hid (Below.then HBr.out hb6)
            have HB56 := Lib.hid (Below.then HB5.out hb6)
            have hyb6 := ((Below.then HBa.out HB6.out).cell (p := ⟨gv, b, none⟩) hgv3).trans (HYC.out b hlt)
            clear hb6 y0 y1
            have y0 := HX6.out.1
            have y1 := HX6.out.2
            rcases q2 : bitI (xs.getD b 0) a with _ | _
            · go_wp2_with fail
              refine (l02Beats_any n _ xs b a _ (HR.out.below HB56.out) (by omega) (by rw [HN.out]; omega) (by omega) (by omega)).mono ?_
              rintro e w7 ⟨rfl, hb7⟩
              rw [show (a : Int).toNat = a from rfl, show (b : Int).toNat = b from rfl, q2]
              have HB7 := Lib.hid (Below.then HB6.out hb7)
              clear hb7 y0 y1
              go_wp2
              go_roundw
              case rel => exact ⟨b + 1, by omega, by go_num, by rw [HS.out, q1, q2]; simp, HB7.out⟩
              case measure => simp [intOf]; omega
            · go_wp2_with fail
              refine (l02Beats_any n _ xs b a _ (HR.out.below HB56.out) (by omega) (by rw [HN.out]; omega) (by omega) (by omega)).mono ?_
              rintro e w7 ⟨rfl, hb7⟩
              rw [show (a : Int).toNat = a from rfl, show (b : Int).toNat = b from rfl, q2]
              have HB7 := Lib.hid (Below.then HB6.out hb7)
              have HX7 := HX6.out.below hb7
              have hyb := ((Below.then HBa.out HB7.out).cell (p := ⟨gv, b, none⟩) hgv3).trans (HYC.out b hlt)
              have HS2 : Hid (spA xs a (b + 1) = spA xs a b + scN xs b - ((n : Int) - 1 - scN xs b)) := by unfold Hid; rw [HS.out, q1, q2]; simp
              clear hb7 y0 y1
              have c0 := cell_regrown HX7.1
              have c2 := cell_regrown hyb
              clear hyb HX7
              generalize scN xs b = y at *
              generalize hsx : spA xs a b = x at *
              clear hsx
              go_wp2_with fail
              refine wp_region_below (by kernel_rfl) (by kernel_rfl) ?_
              repeat (go_big_quiet_step (first | (with_reducible fail)))
              refine wpQuiet_nil ?_
              intro wq hbq0
              have HB8 := Lib.hid (Below.then HB7.out hbq0)
              clear hbq0 c0 c2
              go_wp2
              go_roundw
              case rel => exact ⟨b + 1, by omega, by go_num, by rw [HS2.out], HB8.out⟩
              case measure => simp [intOf]; omega
        · obtain rfl : n = b := by omega
          have hbd := HSP.out a n (Nat.le_refl _)
          rw [HSE.out a hlta] at hbd ⊢
          have HMS : Hid ((List.range (a + 1)).map (dsAt xs) = (List.range a).map (dsAt xs) ++ [dsAt xs a]) := by unfold Hid; rw [List.range_succ, List.map_append]; rfl
          have hlen : ((List.range a).map (dsAt xs)).length ≤ 8 := by simp; omega
          have HO5 := Lib.hid (HOa.out.below HBr.out)
          have HB5 := Lib.hid (Below.then HBa.out HBr.out)
          have hsz5 := HB5.out.size
          have ho := HO5.out
          generalize dsAt xs a = y at *
          generalize (List.range a).map (dsAt xs) = X at *
          go_wp2_with (at_builtin; refine wp_append1 _ rfl (.tmp 51) (.tmp 53) rfl w3.heap.size _ _ _ rfl ho (by simp [Act.eval]) (by omega) (by exact hsz5) ?_; intro v' w7 hown1 hg1; have HO7 := Lib.hid hown1; have HB7 := Lib.hid (below_append HB5.out hg1 ho (Nat.le_refl _) hsz5); clear hown1 hg1)
          go_roundw
          case rel => exact ⟨a + 1, by omega, by go_num, by rw [HMS.out]; exact HO7.out, HB7.out⟩
          case measure => simp [intOf]; omega
    · obtain rfl : n = a := by omega
      have hE : (List.range n).map (dsAt xs) = dsL xs := by rw [dsL, HN.out]
      go_wp2
      go_ret
      exact ⟨_, rfl, by rw [hF.out, ← hE]; exact HOa.out.mono (by omega), Below.then HB3.out HBa.out⟩
end Go.Proofs.Ytoblhnfnjagajab
