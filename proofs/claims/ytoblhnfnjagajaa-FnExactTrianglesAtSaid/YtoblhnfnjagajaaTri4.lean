/- FnExactTrianglesAt: the functions. -/
import Derived.Test.YtoblhnfnjagajaaTri3
namespace Go.Proofs.Ytoblhnfnjagajaa
open Go.RowKit Go.Sort
set_option maxRecDepth 100000
set_option maxHeartbeats 2000000 in
theorem implTri (s : Int) (sl : Value) (xs : List Int) (a : Int) (w : World) (h : Rd w sl xs) :
    Calls Try.prog 63 #[.agg #[.int .i64 s, sl], .int .i64 a] w fun e w' => e = .returned (.int .i64 (triI s xs a)) ∧ Below w.heap.size w w' := by
  have HR := Lib.hid h
  obtain ⟨A, c, rfl, -, -, -⟩ := h
  rcases q0 : tourB s xs with _ | _
  case false =>
    go_enter Try.func63, Try.ntmps63
    go_wp2_with fail
    have b0 := below_alloc1 w (.cells #[.int .i64 s, .slice A xs.length c] 65)
    have x0 := TBox.new w s (.slice A xs.length c) 65
    generalize w.alloc (.cells #[.int .i64 s, .slice A xs.length c] 65) = w0 at *
    have HX0 := Lib.hid x0
    have HB0 := Lib.hid b0
    clear x0 b0
    have y0_0 := HX0.out.1
    have y1_0 := HX0.out.2
    go_wp2_with fail
    refine (implTourOk s _ xs _ (HR.out.below HB0.out)).mono ?_
    rintro e w1 ⟨rfl, hb⟩
    have HX1 := Lib.hid (HX0.out.below hb)
    have HB1 := Lib.hid (Below.then HB0.out hb)
    clear hb HX0 HB0 y0_0 y1_0
    have y0_1 := HX1.out.1
    have y1_1 := HX1.out.2
    rw [q0]
    go_wp2
    go_ret
    exact ⟨ret_int (by simp [triI, *]), HB1.out⟩
  have hp := tourB_true.1 q0
  have hs := hp.1
  have hl := hp.2.1
  rcases q1 : inB a 0 (s - 1) with _ | _
  case false =>
    go_enter Try.func63, Try.ntmps63
    go_wp2_with fail
    have b0 := below_alloc1 w (.cells #[.int .i64 s, .slice A xs.length c] 65)
    have x0 := TBox.new w s (.slice A xs.length c) 65
    generalize w.alloc (.cells #[.int .i64 s, .slice A xs.length c] 65) = w0 at *
    have HX0 := Lib.hid x0
    have HB0 := Lib.hid b0
    clear x0 b0
    have y0_0 := HX0.out.1
    have y1_0 := HX0.out.2
    go_wp2_with fail
    refine (implTourOk s _ xs _ (HR.out.below HB0.out)).mono ?_
    rintro e w1 ⟨rfl, hb⟩
    have HX1 := Lib.hid (HX0.out.below hb)
    have HB1 := Lib.hid (Below.then HB0.out hb)
    clear hb HX0 HB0 y0_0 y1_0
    have y0_1 := HX1.out.1
    have y1_1 := HX1.out.2
    rw [q0]
    go_wp2_with fail
    refine (has_any s (.slice A xs.length c) a _ (by omega)).mono ?_
    rintro e w2 ⟨rfl, hb⟩
    have HX2 := Lib.hid (HX1.out.below hb)
    have HB2 := Lib.hid (Below.then HB1.out hb)
    clear hb HX1 HB1 y0_1 y1_1
    have y0_2 := HX2.out.1
    have y1_2 := HX2.out.2
    rw [q1]
    go_wp2
    go_ret
    exact ⟨ret_int (by simp [triI, *]), HB2.out⟩
  have ha := inB_true.1 q1
  go_enter Try.func63, Try.ntmps63
  go_wp2_with fail
  have b0 := below_alloc1 w (.cells #[.int .i64 s, .slice A xs.length c] 65)
  have x0 := TBox.new w s (.slice A xs.length c) 65
  generalize w.alloc (.cells #[.int .i64 s, .slice A xs.length c] 65) = w0 at *
  have HX0 := Lib.hid x0
  have HB0 := Lib.hid b0
  clear x0 b0
  have y0_0 := HX0.out.1
  have y1_0 := HX0.out.2
  go_wp2_with fail
  refine (implTourOk s _ xs _ (HR.out.below HB0.out)).mono ?_
  rintro e w1 ⟨rfl, hb⟩
  have HX1 := Lib.hid (HX0.out.below hb)
  have HB1 := Lib.hid (Below.then HB0.out hb)
  clear hb HX0 HB0 y0_0 y1_0
  have y0_1 := HX1.out.1
  have y1_1 := HX1.out.2
  rw [q0]
  go_wp2_with fail
  refine (has_any s (.slice A xs.length c) a _ (by omega)).mono ?_
  rintro e w2 ⟨rfl, hb⟩
  have HX2 := Lib.hid (HX1.out.below hb)
  have HB2 := Lib.hid (Below.then HB1.out hb)
  clear hb HX1 HB1 y0_1 y1_1
  have y0_2 := HX2.out.1
  have y1_2 := HX2.out.2
  rw [q1]
  have hF : Hid (triI s xs a = (cntR (triA xs xs.length xs.length) a (triA xs xs.length xs.length).length : Int)) := by unfold Hid; simp [triI, q0, q1]
  have hl8 : xs.length ≤ 8 := by omega
  have hm := triA_len xs xs.length xs.length
  have hm2 := nmul_le hl8 (Nat.le_refl _)
  go_wp2_with fail
  refine (triangles_any s _ xs _ (HR.out.below HB2.out) hp).mono ?_
  rintro e w3 ⟨v, rfl, ho, hb3⟩
  have HB3 := Lib.hid (Below.then HB2.out hb3)
  obtain ⟨B, d, rfl, hd, hdl, hrow⟩ := ho.form
  unfold maxLen at hd
  have HROW := Lib.hid hrow
  clear hb3 ho hrow y0_2 y1_2 hl hl8
  generalize triA xs xs.length xs.length = rows at *
  generalize hmm : rows.length = m at *
  have HM := Lib.hid hmm
  clear hmm
  have hm5 : m ≤ 512 := by omega
  clear hm hm2
  go_wp2
  go_loop [5, 20] (fun t i => ∃ k : Nat, k ≤ m ∧ i = .int .i64 k ∧ t = .int .i64 (cntR rows a k : Nat)) (fun _ i => m - (intOf i).toNat)
  case atStart => exact ⟨0, by omega, rfl, by simp [cntR]⟩
  case round =>
    obtain ⟨k, hk, rfl, rfl⟩ := hrel
    have hle := cntR_le rows a k
    by_cases hlt : k < m
    · obtain ⟨g, rfl, hg, hcell⟩ := HROW.out (by omega)
      obtain ⟨C, e2, hc1, hc2⟩ := hcell k hlt
      have HRD := Lib.hid hc2.rd
      have HS := Lib.hid (cntR_succ (x := a) (show k < rows.length by rw [HM.out]; exact hlt))
      clear hcell hc2
      generalize hq : rows.getD k [] = row at *
      clear hq
      rcases q3 : containsI row a with _ | _
      · go_wp2_with fail
        refine (contains_any _ row a _ HRD.out).mono ?_
        rintro e wz ⟨rfl, rfl⟩
        rw [q3]
        go_wp2
        go_round
        case rel => exact ⟨k + 1, by omega, by go_num, by rw [HS.out, q3]; simp⟩
        case measure => simp [intOf]; omega
      · go_wp2_with fail
        refine (contains_any _ row a _ HRD.out).mono ?_
        rintro e wz ⟨rfl, rfl⟩
        rw [q3]
        go_wp2
        go_round
        case rel => exact ⟨k + 1, by omega, by go_num, by rw [HS.out, q3]; go_num⟩
        case measure => simp [intOf]; omega
    · obtain rfl : m = k := by omega
      go_wp2
      go_ret
      exact ⟨ret_int hF.out.symm, HB3.out⟩
theorem contains3 (p q r a : Int) : containsI [p, q, r] a = ((p == a) || ((q == a) || (r == a))) := by
  unfold containsI
  rw [Bool.eq_iff_iff]
  simp only [List.mem_cons, List.not_mem_nil, or_false, decide_eq_true_eq, Bool.or_eq_true, beq_iff_eq]
  constructor <;> (rintro (h | h | h) <;> simp [h])
set_option maxHeartbeats 2000000 in
theorem specTri (s : Int) (sl : Value) (xs : List Int) (a : Int) (w : World) (h : Rd w sl xs) :
    Calls Try.prog 62 #[.agg #[.int .i64 s, sl], .int .i64 a] w fun e w' => e = .returned (.int .i64 (triI s xs a)) ∧ Below w.heap.size w w' := by
  have HR := Lib.hid h
  obtain ⟨A, c, rfl, -, -, -⟩ := h
  rcases q0 : (tourB s xs && inB a 0 (s - 1)) with _ | _
  case false =>
    go_enter Try.func62, Try.ntmps62
    go_wp2_with fail
    have b0 := below_alloc1 w (.cells #[.int .i64 s, .slice A xs.length c] 65)
    have x0 := TBox.new w s (.slice A xs.length c) 65
    generalize w.alloc (.cells #[.int .i64 s, .slice A xs.length c] 65) = w0 at *
    have HX0 := Lib.hid x0
    have HB0 := Lib.hid b0
    clear x0 b0
    have y0_0 := HX0.out.1
    have y1_0 := HX0.out.2
    go_wp2_with fail
    refine (l02Player_any s _ xs a _ (HR.out.below HB0.out)).mono ?_
    rintro e w1 ⟨rfl, hb⟩
    have HX1 := Lib.hid (HX0.out.below hb)
    have HB1 := Lib.hid (Below.then HB0.out hb)
    clear hb HX0 HB0 y0_0 y1_0
    have y0_1 := HX1.out.1
    have y1_1 := HX1.out.2
    rw [q0]
    go_wp2
    go_ret
    exact ⟨ret_int (by rw [triI, q0]; rfl), HB1.out⟩
  have q0' := q0
  rw [Bool.and_eq_true] at q0'
  have hp := tourB_true.1 q0'.1
  have hs := hp.1
  have hl := hp.2.1
  have ha := inB_true.1 q0'.2
  go_enter Try.func62, Try.ntmps62
  go_wp2_with fail
  have b0 := below_alloc1 w (.cells #[.int .i64 s, .slice A xs.length c] 65)
  have x0 := TBox.new w s (.slice A xs.length c) 65
  generalize w.alloc (.cells #[.int .i64 s, .slice A xs.length c] 65) = w0 at *
  have HX0 := Lib.hid x0
  have HB0 := Lib.hid b0
  clear x0 b0
  have y0_0 := HX0.out.1
  have y1_0 := HX0.out.2
  go_wp2_with fail
  refine (l02Player_any s _ xs a _ (HR.out.below HB0.out)).mono ?_
  rintro e w1 ⟨rfl, hb⟩
  have HX1 := Lib.hid (HX0.out.below hb)
  have HB1 := Lib.hid (Below.then HB0.out hb)
  clear hb HX0 HB0 y0_0 y1_0
  have y0_1 := HX1.out.1
  have y1_1 := HX1.out.2
  rw [q0]
  have hF : Hid (triI s xs a = (cntR (triA xs xs.length xs.length) a (triA xs xs.length xs.length).length : Int)) := by unfold Hid; simp [triI, q0']
  have hl8 : xs.length ≤ 8 := by omega
  have hm := triA_len xs xs.length xs.length
  have hm2 := nmul_le hl8 (Nat.le_refl _)
  go_wp2_with fail
  refine (l04All_any s _ xs _ (HR.out.below HB1.out) hp).mono ?_
  rintro e w3 ⟨v, rfl, ho, hb3⟩
  have HB3 := Lib.hid (Below.then HB1.out hb3)
  obtain ⟨B, d, rfl, hd, hdl, hrow⟩ := ho.form
  unfold maxLen at hd
  have HROW := Lib.hid hrow
  have HAT := Lib.hid (fun (k : Nat) (hk : k < (triA xs xs.length xs.length).length) => rows_at hk)
  clear hb3 ho hrow y0_1 y1_1 hl hl8
  generalize triA xs xs.length xs.length = rows at *
  generalize hmm : rows.length = m at *
  have HM := Lib.hid hmm
  clear hmm
  have hm5 : m ≤ 512 := by omega
  clear hm hm2
  go_wp2
  go_loop [5, 15] (fun t i => ∃ k : Nat, k ≤ m ∧ i = .int .i64 k ∧ t = .int .i64 (cntR rows a k : Nat)) (fun _ i => m - (intOf i).toNat)
  case atStart => exact ⟨0, by omega, rfl, by simp [cntR]⟩
  case round =>
    obtain ⟨k, hk, rfl, rfl⟩ := hrel
    have hle := cntR_le rows a k
    by_cases hlt : k < m
    · obtain ⟨g, rfl, hg, hcell⟩ := HROW.out (by omega)
      obtain ⟨C, e2, hc1, hc2⟩ := hcell k hlt
      have HS := Lib.hid (cntR_succ (x := a) (show k < rows.length by rw [HM.out]; exact hlt))
      obtain ⟨p, q, r, hpq⟩ := HAT.out k hlt
      rw [hpq] at hc1 hc2 HS
      obtain ⟨C', e2', he, -, he3, hcc⟩ := hc2.rd
      injection he with he1 _ he2
      subst he1 he2
      obtain ⟨g2, o2, rfl, hg2, hx⟩ := hcc (by simp)
      have z0 := hx 0 (by simp)
      have z1 := hx 1 (by simp)
      have z2 := hx 2 (by simp)
      unfold maxLen at he3
      simp only [List.length_cons, List.length_nil, List.getD_cons_zero, List.getD_cons_succ, Nat.add_zero, Nat.zero_add] at z0 z1 z2 hc1
      rw [contains3] at HS
      clear hcell hc2 hcc hx hpq
      rcases b1 : ((p : Int) == a) with _ | _
      · rcases b2 : ((q : Int) == a) with _ | _
        · rcases b3 : ((r : Int) == a) with _ | _
          · go_wp2
            go_round
            case rel => exact ⟨k + 1, by omega, by go_num, by rw [HS.out, b1, b2, b3]; simp⟩
            case measure => simp [intOf]; omega
          · go_wp2
            go_round
            case rel => exact ⟨k + 1, by omega, by go_num, by rw [HS.out, b1, b2, b3]; go_num⟩
            case measure => simp [intOf]; omega
        · go_wp2
          go_round
          case rel => exact ⟨k + 1, by omega, by go_num, by rw [HS.out, b1, b2]; go_num⟩
          case measure => simp [intOf]; omega
      · go_wp2
        go_round
        case rel => exact ⟨k + 1, by omega, by go_num, by rw [HS.out, b1]; go_num⟩
        case measure => simp [intOf]; omega
    · obtain rfl : m = k := by omega
      go_wp2
      go_ret
      exact ⟨ret_int hF.out.symm, HB3.out⟩
end Go.Proofs.Ytoblhnfnjagajaa
