/- FnExactDoesBeat: the two functions. -/
import Derived.Test.YtmcajbhillekjaaTourOkS
namespace Go.Proofs.Ytmcajbhillekjaa
open Go.RowKit Go.Sort

noncomputable def beatB (s : Int) (xs : List Int) (a b : Int) : Bool := tourB s xs && inB a 0 (s - 1) && inB b 0 (s - 1) && bitI (xs.getD a.toNat 0) b.toNat

set_option maxHeartbeats 400000 in
theorem l02Player_any (s : Int) (sl : Value) (xs : List Int) (a : Int) (w : World) (h : Rd w sl xs) :
    Calls Try.prog 52 #[.agg #[.int .i64 s, sl], .int .i64 a] w fun e w' => e = .returned (.bool (tourB s xs && inB a 0 (s - 1))) ∧ Below w.heap.size w w' := by
  have HR := Lib.hid h
  obtain ⟨A, c, rfl, -, -, -⟩ := h
  rcases hT : tourB s xs with _ | _
  · go_enter Try.func52, Try.ntmps52
    go_wp2_with fail
    refine (specTourOk _ _ xs _ (HR.out.alloc _)).mono ?_
    rintro e w1 ⟨rfl, hb⟩
    have HB := Lib.hid (Below.then (below_alloc1 _ _) hb)
    clear hb
    go_wp2
    go_ret
    exact ⟨rfl, HB.out⟩
  · have hs := (tourB_true.1 hT).1
    go_enter Try.func52, Try.ntmps52
    go_wp2_with fail
    refine (specTourOk _ _ xs _ (HR.out.alloc _)).mono ?_
    rintro e w1 ⟨rfl, hb⟩
    have hx := (TBox.new w s (.slice A xs.length c) 49).below hb
    have HB := Lib.hid (Below.then (below_alloc1 _ _) hb)
    obtain ⟨y0, y1⟩ := hx
    clear hb
    go_wp2_with (go_at_call 38; refine (l01In_any _ _ _ _).mono ?_; rintro e w2 ⟨rfl, rfl⟩)
    go_ret
    exact ⟨rfl, HB.out⟩
set_option maxHeartbeats 1000000 in
theorem specDoesBeat (s : Int) (sl : Value) (xs : List Int) (a b : Int) (w : World) (h : Rd w sl xs) :
    Calls Try.prog 30 #[.agg #[.int .i64 s, sl], .int .i64 a, .int .i64 b] w fun e w' => e = .returned (.bool (beatB s xs a b)) ∧ Below w.heap.size w w' := by
  have HR := Lib.hid h
  obtain ⟨A, c, rfl, -, -, -⟩ := h
  rcases hT : tourB s xs with _ | _
  · go_enter Try.func30, Try.ntmps30
    go_wp2_with fail
    have b0 := below_alloc1 w (.cells #[.int .i64 s, .slice A xs.length c] 49)
    have x0 := TBox.new w s (.slice A xs.length c) 49
    generalize w.alloc (.cells #[.int .i64 s, .slice A xs.length c] 49) = w0 at *
    have HX0 := Lib.hid x0
    have HB0 := Lib.hid b0
    clear x0 b0
    have y0_0 := HX0.out.1
    have y1_0 := HX0.out.2
    go_wp2_with fail
    refine (l02Player_any s _ xs a _ (HR.out.below HB0.out)).mono ?_
    rintro e w1 ⟨rfl, hb⟩
    have HX1 := Lib.hid (HX0.out.below hb)
    have HB1 := Lib.hid (Below.then HB0.out hb)
    clear hb HX0 HB0 y0_0 y1_0
    have y0_1 := HX1.out.1
    have y1_1 := HX1.out.2
    rw [hT]
    go_wp2
    go_ret
    exact ⟨ret_bool (by simp [beatB, hT]), HB1.out⟩
  · have hp := tourB_true.1 hT
    have hs := hp.1
    have hl := hp.2.1
    rcases hA : inB a 0 (s - 1) with _ | _
    · go_enter Try.func30, Try.ntmps30
      go_wp2_with fail
      have b0 := below_alloc1 w (.cells #[.int .i64 s, .slice A xs.length c] 49)
      have x0 := TBox.new w s (.slice A xs.length c) 49
      generalize w.alloc (.cells #[.int .i64 s, .slice A xs.length c] 49) = w0 at *
      have HX0 := Lib.hid x0
      have HB0 := Lib.hid b0
      clear x0 b0
      have y0_0 := HX0.out.1
      have y1_0 := HX0.out.2
      go_wp2_with fail
      refine (l02Player_any s _ xs a _ (HR.out.below HB0.out)).mono ?_
      rintro e w1 ⟨rfl, hb⟩
      have HX1 := Lib.hid (HX0.out.below hb)
      have HB1 := Lib.hid (Below.then HB0.out hb)
      clear hb HX0 HB0 y0_0 y1_0
      have y0_1 := HX1.out.1
      have y1_1 := HX1.out.2
      rw [hT, hA]
      go_wp2
      go_ret
      exact ⟨ret_bool (by simp [beatB, hA]), HB1.out⟩
    · have ha := inB_true.1 hA
      rcases hB : inB b 0 (s - 1) with _ | _
      · go_enter Try.func30, Try.ntmps30
        go_wp2_with fail
        have b0 := below_alloc1 w (.cells #[.int .i64 s, .slice A xs.length c] 49)
        have x0 := TBox.new w s (.slice A xs.length c) 49
        generalize w.alloc (.cells #[.int .i64 s, .slice A xs.length c] 49) = w0 at *
        have HX0 := Lib.hid x0
        have HB0 := Lib.hid b0
        clear x0 b0
        have y0_0 := HX0.out.1
        have y1_0 := HX0.out.2
        go_wp2_with fail
        refine (l02Player_any s _ xs a _ (HR.out.below HB0.out)).mono ?_
        rintro e w1 ⟨rfl, hb⟩
        have HX1 := Lib.hid (HX0.out.below hb)
        have HB1 := Lib.hid (Below.then HB0.out hb)
        clear hb HX0 HB0 y0_0 y1_0
        have y0_1 := HX1.out.1
        have y1_1 := HX1.out.2
        rw [hT, hA]
        go_wp2_with (go_at_call 38; refine (l01In_any _ _ _ _).mono ?_; rintro e w2 ⟨rfl, rfl⟩)
        go_ret
        exact ⟨ret_bool (by simp [beatB, hB]), HB1.out⟩
      · have hb' := inB_true.1 hB
        have HF : Hid (bitI (xs.getD a.toNat 0) b.toNat = beatB s xs a b) := by unfold Hid beatB; rw [hT, hA, hB]; rfl
        have HL := Lib.hid hl
        clear hp hl
        go_enter Try.func30, Try.ntmps30
        go_wp2_with fail
        have b0 := below_alloc1 w (.cells #[.int .i64 s, .slice A xs.length c] 49)
        have x0 := TBox.new w s (.slice A xs.length c) 49
        generalize w.alloc (.cells #[.int .i64 s, .slice A xs.length c] 49) = w0 at *
        have HX0 := Lib.hid x0
        have HB0 := Lib.hid b0
        clear x0 b0
        have y0_0 := HX0.out.1
        have y1_0 := HX0.out.2
        go_wp2_with fail
        refine (l02Player_any s _ xs a _ (HR.out.below HB0.out)).mono ?_
        rintro e w1 ⟨rfl, hb⟩
        have HX1 := Lib.hid (HX0.out.below hb)
        have HB1 := Lib.hid (Below.then HB0.out hb)
        clear hb HX0 HB0 y0_0 y1_0
        have y0_1 := HX1.out.1
        have y1_1 := HX1.out.2
        rw [hT, hA]
        go_wp2_with (go_at_call 38; refine (l01In_any _ _ _ _).mono ?_; rintro e w2 ⟨rfl, rfl⟩)
        go_wp2_with fail
        refine (l02Beats_any s _ xs a b _ (HR.out.below HB1.out) (by omega) (by have := HL.out; omega) (by omega) (by omega)).mono ?_
        rintro e w2 ⟨rfl, hb⟩
        have HX2 := Lib.hid (HX1.out.below hb)
        have HB2 := Lib.hid (Below.then HB1.out hb)
        clear hb HX1 HB1 y0_1 y1_1
        have y0_2 := HX2.out.1
        have y1_2 := HX2.out.2
        rw [HF.out]
        go_wp2
        go_ret
        exact ⟨rfl, HB2.out⟩
set_option maxHeartbeats 1000000 in
theorem implDoesBeat (s : Int) (sl : Value) (xs : List Int) (a b : Int) (w : World) (h : Rd w sl xs) :
    Calls Try.prog 32 #[.agg #[.int .i64 s, sl], .int .i64 a, .int .i64 b] w fun e w' => e = .returned (.bool (beatB s xs a b)) ∧ Below w.heap.size w w' := by
  have HR := Lib.hid h
  obtain ⟨A, c, rfl, -, -, -⟩ := h
  rcases hT : tourB s xs with _ | _
  · go_enter Try.func32, Try.ntmps32
    go_wp2_with fail
    have b0 := below_alloc1 w (.cells #[.int .i64 s, .slice A xs.length c] 49)
    have x0 := TBox.new w s (.slice A xs.length c) 49
    generalize w.alloc (.cells #[.int .i64 s, .slice A xs.length c] 49) = w0 at *
    have HX0 := Lib.hid x0
    have HB0 := Lib.hid b0
    clear x0 b0
    have y0_0 := HX0.out.1
    have y1_0 := HX0.out.2
    go_wp2_with fail
    refine (implTourOk s _ xs _ (HR.out.below HB0.out)).mono ?_
    rintro e w1 ⟨rfl, hb⟩
    have HX1 := Lib.hid (HX0.out.below hb)
    have HB1 := Lib.hid (Below.then HB0.out hb)
    clear hb HX0 HB0 y0_0 y1_0
    have y0_1 := HX1.out.1
    have y1_1 := HX1.out.2
    rw [hT]
    go_wp2
    go_ret
    exact ⟨ret_bool (by simp [beatB, hT]), HB1.out⟩
  · have hp := tourB_true.1 hT
    have hs := hp.1
    have hl := hp.2.1
    rcases hA : inB a 0 (s - 1) with _ | _
    · go_enter Try.func32, Try.ntmps32
      go_wp2_with fail
      have b0 := below_alloc1 w (.cells #[.int .i64 s, .slice A xs.length c] 49)
      have x0 := TBox.new w s (.slice A xs.length c) 49
      generalize w.alloc (.cells #[.int .i64 s, .slice A xs.length c] 49) = w0 at *
      have HX0 := Lib.hid x0
      have HB0 := Lib.hid b0
      clear x0 b0
      have y0_0 := HX0.out.1
      have y1_0 := HX0.out.2
      go_wp2_with fail
      refine (implTourOk s _ xs _ (HR.out.below HB0.out)).mono ?_
      rintro e w1 ⟨rfl, hb⟩
      have HX1 := Lib.hid (HX0.out.below hb)
      have HB1 := Lib.hid (Below.then HB0.out hb)
      clear hb HX0 HB0 y0_0 y1_0
      have y0_1 := HX1.out.1
      have y1_1 := HX1.out.2
      rw [hT]
      go_wp2_with fail
      refine (has_any s _ a _ (by omega)).mono ?_
      rintro e w2 ⟨rfl, hb⟩
      have HX2 := Lib.hid (HX1.out.below hb)
      have HB2 := Lib.hid (Below.then HB1.out hb)
      clear hb HX1 HB1 y0_1 y1_1
      have y0_2 := HX2.out.1
      have y1_2 := HX2.out.2
      rw [hA]
      go_wp2
      go_ret
      exact ⟨ret_bool (by simp [beatB, hA]), HB2.out⟩
    · have ha := inB_true.1 hA
      rcases hB : inB b 0 (s - 1) with _ | _
      · go_enter Try.func32, Try.ntmps32
        go_wp2_with fail
        have b0 := below_alloc1 w (.cells #[.int .i64 s, .slice A xs.length c] 49)
        have x0 := TBox.new w s (.slice A xs.length c) 49
        generalize w.alloc (.cells #[.int .i64 s, .slice A xs.length c] 49) = w0 at *
        have HX0 := Lib.hid x0
        have HB0 := Lib.hid b0
        clear x0 b0
        have y0_0 := HX0.out.1
        have y1_0 := HX0.out.2
        go_wp2_with fail
        refine (implTourOk s _ xs _ (HR.out.below HB0.out)).mono ?_
        rintro e w1 ⟨rfl, hb⟩
        have HX1 := Lib.hid (HX0.out.below hb)
        have HB1 := Lib.hid (Below.then HB0.out hb)
        clear hb HX0 HB0 y0_0 y1_0
        have y0_1 := HX1.out.1
        have y1_1 := HX1.out.2
        rw [hT]
        go_wp2_with fail
        refine (has_any s _ a _ (by omega)).mono ?_
        rintro e w2 ⟨rfl, hb⟩
        have HX2 := Lib.hid (HX1.out.below hb)
        have HB2 := Lib.hid (Below.then HB1.out hb)
        clear hb HX1 HB1 y0_1 y1_1
        have y0_2 := HX2.out.1
        have y1_2 := HX2.out.2
        rw [hA]
        go_wp2_with fail
        refine (has_any s _ b _ (by omega)).mono ?_
        rintro e w3 ⟨rfl, hb⟩
        have HX3 := Lib.hid (HX2.out.below hb)
        have HB3 := Lib.hid (Below.then HB2.out hb)
        clear hb HX2 HB2 y0_2 y1_2
        have y0_3 := HX3.out.1
        have y1_3 := HX3.out.2
        rw [hB]
        go_wp2
        go_ret
        exact ⟨ret_bool (by simp [beatB, hB]), HB3.out⟩
      · have hb' := inB_true.1 hB
        have HF : Hid (bitI (xs.getD a.toNat 0) b.toNat = beatB s xs a b) := by unfold Hid beatB; rw [hT, hA, hB]; rfl
        have HL := Lib.hid hl
        clear hp hl
        go_enter Try.func32, Try.ntmps32
        go_wp2_with fail
        have b0 := below_alloc1 w (.cells #[.int .i64 s, .slice A xs.length c] 49)
        have x0 := TBox.new w s (.slice A xs.length c) 49
        generalize w.alloc (.cells #[.int .i64 s, .slice A xs.length c] 49) = w0 at *
        have HX0 := Lib.hid x0
        have HB0 := Lib.hid b0
        clear x0 b0
        have y0_0 := HX0.out.1
        have y1_0 := HX0.out.2
        go_wp2_with fail
        refine (implTourOk s _ xs _ (HR.out.below HB0.out)).mono ?_
        rintro e w1 ⟨rfl, hb⟩
        have HX1 := Lib.hid (HX0.out.below hb)
        have HB1 := Lib.hid (Below.then HB0.out hb)
        clear hb HX0 HB0 y0_0 y1_0
        have y0_1 := HX1.out.1
        have y1_1 := HX1.out.2
        rw [hT]
        go_wp2_with fail
        refine (has_any s _ a _ (by omega)).mono ?_
        rintro e w2 ⟨rfl, hb⟩
        have HX2 := Lib.hid (HX1.out.below hb)
        have HB2 := Lib.hid (Below.then HB1.out hb)
        clear hb HX1 HB1 y0_1 y1_1
        have y0_2 := HX2.out.1
        have y1_2 := HX2.out.2
        rw [hA]
        go_wp2_with fail
        refine (has_any s _ b _ (by omega)).mono ?_
        rintro e w3 ⟨rfl, hb⟩
        have HX3 := Lib.hid (HX2.out.below hb)
        have HB3 := Lib.hid (Below.then HB2.out hb)
        clear hb HX2 HB2 y0_2 y1_2
        have y0_3 := HX3.out.1
        have y1_3 := HX3.out.2
        rw [hB]
        go_wp2_with fail
        refine (beats_any s _ xs a b _ (HR.out.below HB3.out) (by omega) (by have := HL.out; omega) (by omega) (by omega)).mono ?_
        rintro e w4 ⟨rfl, hb⟩
        have HX4 := Lib.hid (HX3.out.below hb)
        have HB4 := Lib.hid (Below.then HB3.out hb)
        clear hb HX3 HB3 y0_3 y1_3
        have y0_4 := HX4.out.1
        have y1_4 := HX4.out.2
        rw [HF.out]
        go_wp2
        go_ret
        exact ⟨rfl, HB4.out⟩
end Go.Proofs.Ytmcajbhillekjaa
