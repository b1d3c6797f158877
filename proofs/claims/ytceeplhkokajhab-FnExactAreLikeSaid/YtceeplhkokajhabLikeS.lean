/- FnExactAreLike: both functions (one text: a claim has at most 60 files). -/
import Derived.Test.YtceeplhkokajhabLeastF
namespace Go.Proofs.Ytceeplhkokajhab
open Go.RowKit Go.Sort
set_option maxRecDepth 100000
noncomputable def likeB (s : Int) (xs : List Int) (t : Int) (ys : List Int) : Bool := symB6 s xs && (symB6 t ys && (decide (s = t) && decide (lnL s xs = lnL t ys)))
set_option maxHeartbeats 1000000 in
theorem same_diff (n m : Nat) (A : Option Addr) (la c : Nat) (B : Option Addr) (lb d : Nat) (w : World) (h : n ≠ m) :
    Calls Try.prog 46 #[.agg #[.int .i64 n, .slice A la c], .agg #[.int .i64 m, .slice B lb d]] w fun e w' => e = .returned (.bool false) ∧ Below w.heap.size w w' := by
  have hne : (n == m) = false := by simpa using h
  have hne2 : (((n : Nat) : Int) == ((m : Nat) : Int)) = false := by simp; omega
  have b3 := (below_alloc1 w (.cells #[.int .i64 n, .slice A la c] 27)).alloc (by simp) (.cells #[.int .i64 m, .slice B lb d] 27)
  go_enter Try.func46, Try.ntmps46
  go_wp2
  go_ret
  exact ⟨rfl, b3⟩
set_option maxHeartbeats 4000000 in
theorem implLike (s : Int) (sl : Value) (xs : List Int) (t : Int) (tl : Value) (ys : List Int) (w : World) (h : Rd w sl xs) (h2 : Rd w tl ys) :
    Calls Try.prog 14 #[.agg #[.int .i64 s, sl], .agg #[.int .i64 t, tl]] w fun e w' => e = .returned (.bool (likeB s xs t ys)) ∧ Below w.heap.size w w' := by
  have HR := Lib.hid h
  have HS := Lib.hid h2
  obtain ⟨A, c, rfl, -, hcm, -⟩ := h
  obtain ⟨A2, c2, rfl, -, hcm2, -⟩ := h2
  unfold maxLen at hcm hcm2
  have x3 := (TBox.new w s (.slice A xs.length c) 27).below (below_alloc1 _ (.cells #[.int .i64 t, .slice A2 ys.length c2] 27))
  have t3 := TBox.new (w.alloc (.cells #[.int .i64 s, .slice A xs.length c] 27)) t (.slice A2 ys.length c2) 27
  have b3 := (below_alloc1 w (.cells #[.int .i64 s, .slice A xs.length c] 27)).alloc (by simp) (.cells #[.int .i64 t, .slice A2 ys.length c2] 27)
  simp only [World.size_alloc] at t3
  go_enter Try.func14, Try.ntmps14
  go_wp2_with fail
  generalize (w.alloc (.cells #[.int .i64 s, .slice A xs.length c] 27)).alloc (.cells #[.int .i64 t, .slice A2 ys.length c2] 27) = w0 at *
  have HX0 := Lib.hid x3
  have HY0 := Lib.hid t3
  have HB0 := Lib.hid b3
  clear x3 t3 b3
  have y0 := HX0.out.1
  have y1 := HX0.out.2
  go_wp2_with fail
  refine (implLeast s _ xs _ (HR.out.below HB0.out)).mono ?_
  rintro e w1 ⟨sl1, rfl, ho1, hb1⟩
  obtain ⟨Y1, cy1, rfl, -, -, -⟩ := ho1.form
  have b12 := below_alloc1 w1 (.cells #[.int .i64 (lnS s xs), .slice Y1 (lnL s xs).length cy1] 27)
  have HU2 := Lib.hid (TBox.new w1 (lnS s xs) (.slice Y1 (lnL s xs).length cy1) 27)
  have HO2 := Lib.hid (ho1.below b12)
  have HY2 := Lib.hid ((HY0.out.below hb1).below b12)
  have HB2 := Lib.hid (Below.then (Below.then HB0.out hb1) b12)
  clear y0 y1 ho1 hb1 b12
  have z0 := HY2.out.1
  have z1 := HY2.out.2
  go_wp2_with fail
  generalize w1.alloc (.cells #[.int .i64 (lnS s xs), .slice Y1 (lnL s xs).length cy1] 27) = w2 at *
  refine (implLeast t _ ys _ (HS.out.below HB2.out)).mono ?_
  rintro e w3 ⟨sl3, rfl, ho3, hb3⟩
  obtain ⟨Y3, cy3, rfl, -, -, -⟩ := ho3.form
  have b34 := below_alloc1 w3 (.cells #[.int .i64 (lnS t ys), .slice Y3 (lnL t ys).length cy3] 27)
  have HV4 := Lib.hid (TBox.new w3 (lnS t ys) (.slice Y3 (lnL t ys).length cy3) 27)
  have HP4 := Lib.hid (ho3.below b34)
  have HU4 := Lib.hid ((HU2.out.below hb3).below b34)
  have HO4 := Lib.hid ((HO2.out.below hb3).below b34)
  have HB4 := Lib.hid (Below.then (Below.then HB2.out hb3) b34)
  clear z0 z1 ho3 hb3 b34
  have u0 := HU4.out.1
  have u1 := HU4.out.2
  rcases q1 : symB6 s xs with _ | _
  · go_wp2
    go_ret
    exact ⟨ret_bool (by simp [likeB, q1]), HB4.out⟩
  · rcases q2 : symB6 t ys with _ | _
    · go_wp2
      go_ret
      exact ⟨ret_bool (by simp [likeB, q1, q2]), HB4.out⟩
    · have e1 := (ln_yes q1).1
      have e2 := (ln_yes q2).1
      have hs := (lnL_is q1).1.1
      have ht := (lnL_is q2).1.1
      clear u0 u1 HU2 HO2 HX0 HY0 HB0 HY2
      simp only [e1, e2] at HU4 HV4 HO4 HP4 HB4 ⊢
      have u0 := HU4.out.1
      have u1 := HU4.out.2
      have u2 := HV4.out.1
      have u3 := HV4.out.2
      clear e1 e2
      have HLK : Hid (likeB s xs t ys = (decide (s = t) && decide (lnL s xs = lnL t ys))) := by unfold Hid; simp [likeB, q1, q2]
      obtain ⟨n, rfl⟩ := Int.eq_ofNat_of_zero_le (show 0 ≤ s by omega)
      obtain ⟨m, rfl⟩ := Int.eq_ofNat_of_zero_le (show 0 ≤ t by omega)
      by_cases hnm : n = m
      · subst hnm
        have HLK2 : Hid (likeB (n : Int) xs (n : Int) ys = decide (lnL (n : Int) xs = lnL (n : Int) ys)) := by unfold Hid; rw [HLK.out]; simp
        go_wp2_with fail
        refine (same_any n _ _ (lnL (n : Int) xs) (lnL (n : Int) ys) _ HO4.out.rd HP4.out.rd).mono ?_
        rintro e w6 ⟨rfl, hb6⟩
        have HB6 := Lib.hid (Below.then HB4.out hb6)
        clear hb6 u0 u1 u2 u3
        go_wp2
        go_ret
        exact ⟨ret_bool HLK2.out.symm, HB6.out⟩
      · have HLK2 : Hid (likeB (n : Int) xs (m : Int) ys = false) := by unfold Hid; rw [HLK.out, decide_eq_false (by omega : ¬ (n : Int) = (m : Int))]; rfl
        go_wp2_with fail
        refine (same_diff n m _ _ _ _ _ _ _ hnm).mono ?_
        rintro e w6 ⟨rfl, hb6⟩
        have HB6 := Lib.hid (Below.then HB4.out hb6)
        clear hb6 u0 u1 u2 u3
        go_wp2
        go_ret
        exact ⟨ret_bool HLK2.out.symm, HB6.out⟩
theorem like_no {s : Int} {xs : List Int} {t : Int} {ys : List Int} (h : symB6 s xs = false ∨ tourB t ys = false ∨ s ≠ t) : likeB s xs t ys = false := by
  unfold likeB
  rcases h with h | h | h
  · rw [h]; rfl
  · have : symB6 t ys = false := by simp [symB6, h]
    rw [this]; simp
  · rw [decide_eq_false h]; simp
theorem like_any {n : Nat} {xs ys : List Int} (hp : tourP n xs) (hq : tourP n ys) (h6 : n ≤ 6) (hn : xs.length = n) : likeB n xs n ys = true ↔ ∃ ns ∈ namesL n, rnL xs (nI ns) = ys := by
  have q1 : symB6 (n : Int) xs = true := by simp [symB6, tourB_true.2 hp]; omega
  have q2 : symB6 (n : Int) ys = true := by simp [symB6, tourB_true.2 hq]; omega
  have e : likeB n xs n ys = true ↔ lnL (n : Int) xs = lnL (n : Int) ys := by simp [likeB, q1, q2]
  rw [e, least_like hp hq (lnL_is q1).2.2 (lnL_is q2).2.2, hn]
  constructor
  · rintro ⟨ns, hP, h⟩
    obtain ⟨ms, hms, rfl⟩ := perm_of hP
    exact ⟨ms, (names_perm h6).mem_iff.2 hms, h⟩
  · rintro ⟨ns, hns, h⟩
    exact ⟨nI ns, perm_nI.2 ((names_perm h6).mem_iff.1 hns), h⟩
set_option maxHeartbeats 8000000 in
theorem specLike (s : Int) (sl : Value) (xs : List Int) (t : Int) (tl : Value) (ys : List Int) (w : World) (h : Rd w sl xs) (h2 : Rd w tl ys) :
    Calls Try.prog 13 #[.agg #[.int .i64 s, sl], .agg #[.int .i64 t, tl]] w fun e w' => e = .returned (.bool (likeB s xs t ys)) ∧ Below w.heap.size w w' := by
  have HR := Lib.hid h
  have HS := Lib.hid h2
  obtain ⟨A, c, rfl, -, hcm, -⟩ := h
  obtain ⟨A2, c2, rfl, -, hcm2, -⟩ := h2
  unfold maxLen at hcm hcm2
  have x3 := (TBox.new w s (.slice A xs.length c) 27).below (below_alloc1 _ (.cells #[.int .i64 t, .slice A2 ys.length c2] 27))
  have t3 := TBox.new (w.alloc (.cells #[.int .i64 s, .slice A xs.length c] 27)) t (.slice A2 ys.length c2) 27
  have b3 := (below_alloc1 w (.cells #[.int .i64 s, .slice A xs.length c] 27)).alloc (by simp) (.cells #[.int .i64 t, .slice A2 ys.length c2] 27)
  simp only [World.size_alloc] at t3
  go_enter Try.func13, Try.ntmps13
  go_wp2_with fail
  generalize (w.alloc (.cells #[.int .i64 s, .slice A xs.length c] 27)).alloc (.cells #[.int .i64 t, .slice A2 ys.length c2] 27) = w0 at *
  have HX0 := Lib.hid x3
  have HY0 := Lib.hid t3
  have HB0 := Lib.hid b3
  clear x3 t3 b3
  have y0 := HX0.out.1
  have y1 := HX0.out.2
  go_wp2_with fail
  refine (specTourOk s _ xs _ (HR.out.below HB0.out)).mono ?_
  rintro e w1 ⟨rfl, hb1⟩
  have HX1 := Lib.hid (HX0.out.below hb1)
  have HY1 := Lib.hid (HY0.out.below hb1)
  have HB1 := Lib.hid (Below.then HB0.out hb1)
  clear y0 y1 hb1 HX0 HY0 HB0
  have y0 := HX1.out.1
  have z0 := HY1.out.1
  have z1 := HY1.out.2
  rcases q0 : tourB s xs with _ | _
  · go_wp2
    go_ret
    exact ⟨ret_bool (like_no (.inl (by simp [symB6, q0]))).symm, HB1.out⟩
  · go_wp2_with fail
    refine (specTourOk t _ ys _ (HS.out.below HB1.out)).mono ?_
    rintro e w2 ⟨rfl, hb2⟩
    have HX2 := Lib.hid (HX1.out.below hb2)
    have HY2 := Lib.hid (HY1.out.below hb2)
    have HB2 := Lib.hid (Below.then HB1.out hb2)
    clear y0 z0 z1 hb2 HX1 HY1 HB1
    have y0 := HX2.out.1
    have z0 := HY2.out.1
    rcases q1 : tourB t ys with _ | _
    · go_wp2
      go_ret
      exact ⟨ret_bool (like_no (.inr (.inl q1))).symm, HB2.out⟩
    · have hp := tourB_true.1 q0
      have hq := tourB_true.1 q1
      have hs := hp.1
      have ht := hq.1
      have hsl := hp.2.1
      have htl := hq.2.1
      have HP := Lib.hid hp
      have HQ := Lib.hid hq
      clear hp hq
      by_cases hst : s = t
      · by_cases h6 : s ≤ 6
        · subst hst
          generalize hln : xs.length = n at *
          generalize hln2 : ys.length = n2 at *
          obtain rfl : s = (n : Int) := by omega
          obtain rfl : n2 = n := by omega
          have HL := Lib.hid hln
          have HL2 := Lib.hid hln2
          clear hln hln2 hsl htl
          have h6n : n2 ≤ 6 := by omega
          have h6b : decide ((6 : Int) < (n2 : Int)) = false := decide_eq_false (by omega)
          have hnn : (((n2 : Nat) : Int) != ((n2 : Nat) : Int)) = false := by simp
          have hfp := fact_pos n2
          have hf7 := fact_le n2 h6n
          have HLA := Lib.hid (like_any HP.out HQ.out h6n HL.out)
          have hfld : ∀ (Y : Option Addr) (q cy : Nat) (W : World), (Instr.field 27 (.agg #[.int .i64 n2, .slice Y q cy]) 1).run Try.prog W = .ok (.slice Y q cy) W := fun _ _ _ _ => by kernel_rfl
          clear h6
          go_wp2
          clear y0 z0
          go_loopw [5] (fun i wr => ∃ k : Nat, k ≤ factN n2 ∧ i = .int .i64 k ∧ Hid (∀ ns ∈ (namesL n2).take k, rnL xs (nI ns) ≠ ys) ∧ Hid (Below w.heap.size w wr) ∧ Hid (TBox wr w.heap.size n2 (.slice A n2 c)) ∧ Hid (TBox wr (w.heap.size + 1) n2 (.slice A2 n2 c2))) (fun i _ => factN n2 - (intOf i).toNat)
          case atStart => exact ⟨0, by omega, rfl, (fun _ h => by simp at h), HB2.out, HX2.out, HY2.out⟩
          case round =>
            obtain ⟨wo, rfl⟩ : ∃ x, x = wr := ⟨_, rfl⟩
            obtain ⟨k, hk, rfl, HN, HB, HX, HY⟩ := hrel
            have y0 := HX.out.1
            have y1 := HX.out.2
            have z1 := HY.out.2
            by_cases hlt : k < factN n2
            · have hmem := Lib.hid (perm_nI.2 (names_mem h6n hlt))
              have HT := Lib.hid (names_at hlt)
              have HMN : Hid (nameAt n2 k (turnN n2) ∈ namesL n2) := List.mem_map.2 ⟨k, List.mem_range.2 hlt, rfl⟩
              have BD := Lib.hid (show Below w.heap.size w wo.drew from HB.out.drew)
              have XD := Lib.hid (show TBox wo.drew w.heap.size n2 (.slice A n2 c) from HX.out)
              have YD := Lib.hid (show TBox wo.drew (w.heap.size + 1) n2 (.slice A2 n2 c2) from HY.out)
              go_wp2_with (go_at_call 38; refine (l11Count_any n2 h6n (by omega) _).mono ?_; rintro e w1 ⟨rfl, rfl⟩)
              go_region_held3 (fun W => W.cell? ⟨w.heap.size, 0, none⟩ = some (.int .i64 n2) ∧ W.cell? ⟨w.heap.size, 1, none⟩ = some (.slice A n2 c) ∧ W.cell? ⟨w.heap.size + 1, 1, none⟩ = some (.slice A2 n2 c2))
                (first | exact ⟨y0, y1, z1⟩ | exact ⟨y0_3, y1_3, z1_3⟩ | exact ⟨y0_4, y1_4, z1_4⟩ | exact ⟨y0_5, y1_5, z1_5⟩)
                (first
                  | (go_at_call 41; refine (l11Names_any n2 h6n (by omega) k (by omega) wo.drew).mono ?_; rintro e w3 ⟨v3, rfl, ho3, hb3⟩; obtain ⟨NA, nc, rfl, -, -, -⟩ := ho3.form; have HX3 := Lib.hid (XD.out.below hb3); have HY3 := Lib.hid (YD.out.below hb3); have y0_3 := HX3.out.1; have y1_3 := HX3.out.2; have z1_3 := HY3.out.2; have HB3 := Lib.hid (Below.then BD.out hb3); have HO3 := Lib.hid ho3; clear ho3 hb3)
                  | (go_at_call 40; refine (l02Rename_any n2 (.slice A n2 c) xs (nI (nameAt n2 k (turnN n2))) _ w3 (HR.out.below HB3.out) HP.out HO3.out.rd (by rw [HL.out]; exact hmem.out)).mono ?_; rintro e w4 ⟨v4, rfl, ho4, hF4, hb4⟩; obtain ⟨Y, cy, rfl, hym, -, -⟩ := ho4.form; have HX4 := Lib.hid (HX3.out.below hb4); have HY4 := Lib.hid (HY3.out.below hb4); have y0_4 := HX4.out.1; have y1_4 := HX4.out.2; have z1_4 := HY4.out.2; have HB4 := Lib.hid (Below.then HB3.out hb4); have HO4 := Lib.hid ho4; clear ho4 hF4 hb4)
                  | (go_at_call 39; refine (of_same (l04Same_any _ (.slice A2 n2 c2) (rnL xs (nI (nameAt n2 k (turnN n2)))) ys w4 HO4.out.rd (HS.out.below HB4.out))).mono ?_; rintro e w5 ⟨rfl, hb5⟩; have HX5 := Lib.hid (HX4.out.below hb5); have HY5 := Lib.hid (HY4.out.below hb5); have y0_5 := HX5.out.1; have y1_5 := HX5.out.2; have z1_5 := HY5.out.2; have HB5 := Lib.hid (Below.then HB4.out hb5); clear hb5))
              all_goals
                clear y0 y1 z1 y0_3 y1_3 z1_3 y0_4 y1_4 z1_4 y0_5 y1_5 z1_5
                rcases qd : decide (rnL xs (nI (nameAt n2 k (turnN n2))) = ys) with _ | _
                · have HNE := Lib.hid (of_decide_eq_false qd)
                  go_wp2
                  go_roundw
                  case rel =>
                    refine ⟨k + 1, by omega, by go_num, fun ns h => ?_, HB5.out, HX5.out, HY5.out⟩
                    rw [HT.out, List.mem_append, List.mem_singleton] at h
                    rcases h with h | rfl
                    · exact HN.out ns h
                    · exact HNE.out
                  case measure => simp [intOf]; omega
                · have HEQ := Lib.hid (of_decide_eq_true qd)
                  have HF : Hid (likeB n2 xs n2 ys = true) := HLA.out.2 ⟨_, HMN.out, HEQ.out⟩
                  go_wp2
                  go_ret
                  exact ⟨ret_bool HF.out.symm, HB5.out⟩
            · obtain rfl : k = factN n2 := by omega
              have HF : Hid (likeB n2 xs n2 ys = false) := by
                unfold Hid
                rcases q : likeB n2 xs n2 ys with _ | _
                · rfl
                · obtain ⟨ns, hns, he⟩ := HLA.out.1 q
                  exact absurd he (HN.out ns (by rw [List.take_of_length_le (by rw [names_len]; exact Nat.le_refl _)]; exact hns))
              go_wp2_with (go_at_call 38; refine (l11Count_any n2 h6n (by omega) _).mono ?_; rintro e w1 ⟨rfl, rfl⟩)
              go_ret
              exact ⟨ret_bool HF.out.symm, HB.out⟩
        · have HF : Hid (likeB s xs t ys = false) := like_no (.inl (by simp [symB6, h6]))
          subst hst
          have hnn : (s != s) = false := by simp
          have h7b : decide (6 < s) = true := decide_eq_true (by omega)
          clear hsl htl
          go_wp2
          go_ret
          exact ⟨ret_bool HF.out.symm, HB2.out⟩
      · have HF : Hid (likeB s xs t ys = false) := like_no (.inr (.inr hst))
        have hnn : (s != t) = true := by simpa using hst
        clear hsl htl
        go_wp2
        go_ret
        exact ⟨ret_bool HF.out.symm, HB2.out⟩
end Go.Proofs.Ytceeplhkokajhab
