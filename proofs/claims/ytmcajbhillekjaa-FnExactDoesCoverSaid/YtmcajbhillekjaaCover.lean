/- FnExactDoesCover: the two functions. -/
import Derived.Test.YtmcajbhillekjaaBeat
namespace Go.Proofs.Ytmcajbhillekjaa
open Go.RowKit Go.Sort

noncomputable def coverB (s : Int) (xs : List Int) (a b : Int) : Bool := beatB s xs a b && (bits BinOp.andNot IntKind.i64 (xs.getD b.toNat 0) (xs.getD a.toNat 0) == 0)

set_option maxHeartbeats 4000000 in
theorem implDoesCover (s : Int) (sl : Value) (xs : List Int) (a b : Int) (w : World) (h : Rd w sl xs) :
    Calls Try.prog 35 #[.agg #[.int .i64 s, sl], .int .i64 a, .int .i64 b] w fun e w' => e = .returned (.bool (coverB s xs a b)) ∧ Below w.heap.size w w' := by
  have HR := Lib.hid h
  obtain ⟨A, c, rfl, hlc, hm, hcell⟩ := h
  unfold maxLen at hm
  have HC := Lib.hid hcell
  clear hcell
  rcases hT : tourB s xs with _ | _
  · go_enter Try.func35, Try.ntmps35
    go_wp2_with fail
    have b0 := below_alloc1 w (.cells #[.int .i64 s, .slice A xs.length c] 49)
    have x0 := TBox.new w s (.slice A xs.length c) 49
    generalize w.alloc (.cells #[.int .i64 s, .slice A xs.length c] 49) = w0 at *
    have HX0 := Lib.hid x0
    have HB0 := Lib.hid b0
    clear x0 b0
    have y0_0 := HX0.out.1
    have y1_0 := HX0.out.2
    have k1 := quiet_below (w := w0) (fun W hW => implTourOk s _ xs W ((HR.out.below HB0.out).below hW))
    rw [hT] at k1
    have y0_q := cell_regrown y0_0
    have y1_q := cell_regrown y1_0
    clear y0_0 y1_0
    refine wp_region_below (by kernel_rfl) (by kernel_rfl) ?_
    repeat (go_big_quiet_step (first | (with_reducible exact k1 _ _)))
    refine wpQuiet_nil ?_
    intro wq hbq0
    have hbq := Lib.hid hbq0
    clear hbq0
    clear y0_q y1_q
    go_wp2
    go_ret
    exact ⟨ret_bool (by simp [coverB, beatB, hT]), Below.then HB0.out hbq.out⟩
  · have hp := tourB_true.1 hT
    have hs := hp.1
    have hl := hp.2.1
    rcases hA : inB a 0 (s - 1) with _ | _
    · go_enter Try.func35, Try.ntmps35
      go_wp2_with fail
      have b0 := below_alloc1 w (.cells #[.int .i64 s, .slice A xs.length c] 49)
      have x0 := TBox.new w s (.slice A xs.length c) 49
      generalize w.alloc (.cells #[.int .i64 s, .slice A xs.length c] 49) = w0 at *
      have HX0 := Lib.hid x0
      have HB0 := Lib.hid b0
      clear x0 b0
      have y0_0 := HX0.out.1
      have y1_0 := HX0.out.2
      have k1 := quiet_below (w := w0) (fun W hW => implTourOk s _ xs W ((HR.out.below HB0.out).below hW))
      have k2 := quiet_below (w := w0) (fun W hW => has_any s (.slice A xs.length c) a W (by omega))
      rw [hT] at k1
      rw [hA] at k2
      have y0_q := cell_regrown y0_0
      have y1_q := cell_regrown y1_0
      clear y0_0 y1_0
      refine wp_region_below (by kernel_rfl) (by kernel_rfl) ?_
      repeat (go_big_quiet_step (first | (with_reducible exact k1 _ _) | (with_reducible exact k2 _ _)))
      refine wpQuiet_nil ?_
      intro wq hbq0
      have hbq := Lib.hid hbq0
      clear hbq0
      clear y0_q y1_q
      go_wp2
      go_ret
      exact ⟨ret_bool (by simp [coverB, beatB, hA]), Below.then HB0.out hbq.out⟩
    · have ha := inB_true.1 hA
      rcases hB : inB b 0 (s - 1) with _ | _
      · go_enter Try.func35, Try.ntmps35
        go_wp2_with fail
        have b0 := below_alloc1 w (.cells #[.int .i64 s, .slice A xs.length c] 49)
        have x0 := TBox.new w s (.slice A xs.length c) 49
        generalize w.alloc (.cells #[.int .i64 s, .slice A xs.length c] 49) = w0 at *
        have HX0 := Lib.hid x0
        have HB0 := Lib.hid b0
        clear x0 b0
        have y0_0 := HX0.out.1
        have y1_0 := HX0.out.2
        have k1 := quiet_below (w := w0) (fun W hW => implTourOk s _ xs W ((HR.out.below HB0.out).below hW))
        have k2 := quiet_below (w := w0) (fun W hW => has_any s (.slice A xs.length c) a W (by omega))
        have k3 := quiet_below (w := w0) (fun W hW => has_any s (.slice A xs.length c) b W (by omega))
        rw [hT] at k1
        rw [hA] at k2
        rw [hB] at k3
        have y0_q := cell_regrown y0_0
        have y1_q := cell_regrown y1_0
        clear y0_0 y1_0
        refine wp_region_below (by kernel_rfl) (by kernel_rfl) ?_
        repeat (go_big_quiet_step (first | (with_reducible exact k1 _ _) | (with_reducible exact k2 _ _) | (with_reducible exact k3 _ _)))
        refine wpQuiet_nil ?_
        intro wq hbq0
        have hbq := Lib.hid hbq0
        clear hbq0
        clear y0_q y1_q
        go_wp2
        go_ret
        exact ⟨ret_bool (by simp [coverB, beatB, hB]), Below.then HB0.out hbq.out⟩
      · have hb' := inB_true.1 hB
        have HF : Hid (bitI (xs.getD a.toNat 0) b.toNat = beatB s xs a b) := by unfold Hid beatB; rw [hT, hA, hB]; rfl
        obtain ⟨n, rfl⟩ := Int.eq_ofNat_of_zero_le ha.1
        obtain ⟨m, rfl⟩ := Int.eq_ofNat_of_zero_le hb'.1
        obtain ⟨g, off, rfl, hg, hx⟩ := HC.out (by omega)
        have hxn := hx n (by omega)
        have hxm := hx m (by omega)
        have HL := Lib.hid hl
        clear hp hl hx
        rcases hK : beatB s xs n m with _ | _
        all_goals
          go_enter Try.func35, Try.ntmps35
          go_wp2_with fail
          have b0 := below_alloc1 w (.cells #[.int .i64 s, .slice (some ⟨g, off, none⟩) xs.length c] 49)
          have x0 := TBox.new w s (.slice (some ⟨g, off, none⟩) xs.length c) 49
          generalize w.alloc (.cells #[.int .i64 s, .slice (some ⟨g, off, none⟩) xs.length c] 49) = w0 at *
          have HX0 := Lib.hid x0
          have HB0 := Lib.hid b0
          clear x0 b0
          have y0_0 := HX0.out.1
          have y1_0 := HX0.out.2
          have k1 := quiet_below (w := w0) (fun W hW => implTourOk s _ xs W ((HR.out.below HB0.out).below hW))
          have k2 := quiet_below (w := w0) (fun W hW => has_any s (.slice (some ⟨g, off, none⟩) xs.length c) n W (by omega))
          have k3 := quiet_below (w := w0) (fun W hW => has_any s (.slice (some ⟨g, off, none⟩) xs.length c) m W (by omega))
          have k4 := quiet_below (w := w0) (fun W hW => beats_any s (.slice (some ⟨g, off, none⟩) xs.length c) xs n m W ((HR.out.below HB0.out).below hW) (by omega) (by have := HL.out; omega) (by omega) (by omega))
          rw [hT] at k1
          rw [hA] at k2
          rw [hB] at k3
          rw [HF.out, hK] at k4
          have cn := cell_regrown ((HB0.out.cell (by exact hg)).trans hxn)
          have cm := cell_regrown ((HB0.out.cell (by exact hg)).trans hxm)
          clear hxn hxm
          have hnl : n < xs.length := by have := HL.out; omega
          have hml : m < xs.length := by have := HL.out; omega
          have y0_q := cell_regrown y0_0
          have y1_q := cell_regrown y1_0
          clear y0_0 y1_0
          refine wp_region_below (by kernel_rfl) (by kernel_rfl) ?_
          repeat (go_big_quiet_step (first | (with_reducible exact k1 _ _) | (with_reducible exact k2 _ _) | (with_reducible exact k3 _ _) | (with_reducible exact k4 _ _)))
          refine wpQuiet_nil ?_
          intro wq hbq0
          have hbq := Lib.hid hbq0
          clear hbq0
          clear y0_q y1_q
          go_wp2
          go_ret
          exact ⟨ret_bool (by first | (simp [coverB, hK]; done) | simp [coverB, hK, hnl, hml]), Below.then HB0.out hbq.out⟩
set_option maxHeartbeats 4000000 in
theorem specDoesCover (s : Int) (sl : Value) (xs : List Int) (a b : Int) (w : World) (h : Rd w sl xs) :
    Calls Try.prog 34 #[.agg #[.int .i64 s, sl], .int .i64 a, .int .i64 b] w fun e w' => e = .returned (.bool (coverB s xs a b)) ∧ Below w.heap.size w w' := by
  have HR := Lib.hid h
  obtain ⟨A, c, rfl, hlc, hm, hcell⟩ := h
  unfold maxLen at hm
  have HC := Lib.hid hcell
  clear hcell
  rcases hT : tourB s xs with _ | _
  · go_enter Try.func34, Try.ntmps34
    go_wp2_with fail
    have b0 := below_alloc1 w (.cells #[.int .i64 s, .slice A xs.length c] 49)
    have x0 := TBox.new w s (.slice A xs.length c) 49
    generalize w.alloc (.cells #[.int .i64 s, .slice A xs.length c] 49) = w0 at *
    have HX0 := Lib.hid x0
    have HB0 := Lib.hid b0
    clear x0 b0
    have y0_0 := HX0.out.1
    have y1_0 := HX0.out.2
    have k1 := quiet_below (w := w0) (fun W hW => l02Player_any s _ xs a W ((HR.out.below HB0.out).below hW))
    rw [hT, Bool.false_and] at k1
    have y0_q := cell_regrown y0_0
    have y1_q := cell_regrown y1_0
    clear y0_0 y1_0
    refine wp_region_below (by kernel_rfl) (by kernel_rfl) ?_
    repeat (go_big_quiet_step (first | (with_reducible exact k1 _ _)))
    refine wpQuiet_nil ?_
    intro wq hbq0
    have hbq := Lib.hid hbq0
    clear hbq0
    clear y0_q y1_q
    go_wp2
    go_ret
    exact ⟨ret_bool (by simp [coverB, beatB, hT]), Below.then HB0.out hbq.out⟩
  · have hp := tourB_true.1 hT
    have hs := hp.1
    have hl := hp.2.1
    rcases hA : inB a 0 (s - 1) with _ | _
    · go_enter Try.func34, Try.ntmps34
      go_wp2_with fail
      have b0 := below_alloc1 w (.cells #[.int .i64 s, .slice A xs.length c] 49)
      have x0 := TBox.new w s (.slice A xs.length c) 49
      generalize w.alloc (.cells #[.int .i64 s, .slice A xs.length c] 49) = w0 at *
      have HX0 := Lib.hid x0
      have HB0 := Lib.hid b0
      clear x0 b0
      have y0_0 := HX0.out.1
      have y1_0 := HX0.out.2
      have k1 := quiet_below (w := w0) (fun W hW => l02Player_any s _ xs a W ((HR.out.below HB0.out).below hW))
      rw [hT, hA, Bool.true_and] at k1
      have y0_q := cell_regrown y0_0
      have y1_q := cell_regrown y1_0
      clear y0_0 y1_0
      refine wp_region_below (by kernel_rfl) (by kernel_rfl) ?_
      repeat (go_big_quiet_step (first | (with_reducible exact k1 _ _)))
      refine wpQuiet_nil ?_
      intro wq hbq0
      have hbq := Lib.hid hbq0
      clear hbq0
      clear y0_q y1_q
      go_wp2
      go_ret
      exact ⟨ret_bool (by simp [coverB, beatB, hA]), Below.then HB0.out hbq.out⟩
    · have ha := inB_true.1 hA
      rcases hB : inB b 0 (s - 1) with _ | _
      · go_enter Try.func34, Try.ntmps34
        go_wp2_with fail
        have b0 := below_alloc1 w (.cells #[.int .i64 s, .slice A xs.length c] 49)
        have x0 := TBox.new w s (.slice A xs.length c) 49
        generalize w.alloc (.cells #[.int .i64 s, .slice A xs.length c] 49) = w0 at *
        have HX0 := Lib.hid x0
        have HB0 := Lib.hid b0
        clear x0 b0
        have y0_0 := HX0.out.1
        have y1_0 := HX0.out.2
        have k1 := quiet_below (w := w0) (fun W hW => l02Player_any s _ xs a W ((HR.out.below HB0.out).below hW))
        have k3 := quiet_below (w := w0) (fun W _ => of_same (l01In_any b 0 (s - 1) W))
        rw [hT, hA, Bool.true_and] at k1
        rw [hB] at k3
        have y0_q := cell_regrown y0_0
        have y1_q := cell_regrown y1_0
        clear y0_0 y1_0
        refine wp_region_below (by kernel_rfl) (by kernel_rfl) ?_
        repeat (go_big_quiet_step (first | (with_reducible exact k1 _ _) | (with_reducible exact k3 _ _)))
        refine wpQuiet_nil ?_
        intro wq hbq0
        have hbq := Lib.hid hbq0
        clear hbq0
        clear y0_q y1_q
        go_wp2
        go_ret
        exact ⟨ret_bool (by simp [coverB, beatB, hB]), Below.then HB0.out hbq.out⟩
      · have hb' := inB_true.1 hB
        have HF : Hid (bitI (xs.getD a.toNat 0) b.toNat = beatB s xs a b) := by unfold Hid beatB; rw [hT, hA, hB]; rfl
        obtain ⟨n, rfl⟩ := Int.eq_ofNat_of_zero_le ha.1
        obtain ⟨m, rfl⟩ := Int.eq_ofNat_of_zero_le hb'.1
        obtain ⟨g, off, rfl, hg, hx⟩ := HC.out (by omega)
        have hxn := hx n (by omega)
        have hxm := hx m (by omega)
        have HL := Lib.hid hl
        clear hp hl hx
        rcases hK : beatB s xs n m with _ | _
        all_goals
          go_enter Try.func34, Try.ntmps34
          go_wp2_with fail
          have b0 := below_alloc1 w (.cells #[.int .i64 s, .slice (some ⟨g, off, none⟩) xs.length c] 49)
          have x0 := TBox.new w s (.slice (some ⟨g, off, none⟩) xs.length c) 49
          generalize w.alloc (.cells #[.int .i64 s, .slice (some ⟨g, off, none⟩) xs.length c] 49) = w0 at *
          have HX0 := Lib.hid x0
          have HB0 := Lib.hid b0
          clear x0 b0
          have y0_0 := HX0.out.1
          have y1_0 := HX0.out.2
          have k1 := quiet_below (w := w0) (fun W hW => l02Player_any s _ xs n W ((HR.out.below HB0.out).below hW))
          have k3 := quiet_below (w := w0) (fun W _ => of_same (l01In_any m 0 (s - 1) W))
          have k4 := quiet_below (w := w0) (fun W hW => l02Beats_any s (.slice (some ⟨g, off, none⟩) xs.length c) xs n m W ((HR.out.below HB0.out).below hW) (by omega) (by have := HL.out; omega) (by omega) (by omega))
          rw [hT, hA, Bool.true_and] at k1
          rw [hB] at k3
          rw [HF.out, hK] at k4
          have cn := cell_regrown ((HB0.out.cell (by exact hg)).trans hxn)
          have cm := cell_regrown ((HB0.out.cell (by exact hg)).trans hxm)
          clear hxn hxm
          have hnl : n < xs.length := by have := HL.out; omega
          have hml : m < xs.length := by have := HL.out; omega
          have y0_q := cell_regrown y0_0
          have y1_q := cell_regrown y1_0
          clear y0_0 y1_0
          refine wp_region_below (by kernel_rfl) (by kernel_rfl) ?_
          repeat (go_big_quiet_step (first | (with_reducible exact k1 _ _) | (with_reducible exact k3 _ _) | (with_reducible exact k4 _ _)))
          refine wpQuiet_nil ?_
          intro wq hbq0
          have hbq := Lib.hid hbq0
          clear hbq0
          clear y0_q y1_q
          go_wp2
          go_ret
          exact ⟨ret_bool (by first | (simp [coverB, hK]; done) | simp [coverB, hK, hnl, hml]), Below.then HB0.out hbq.out⟩
end Go.Proofs.Ytmcajbhillekjaa
