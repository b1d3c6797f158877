/- FnExactIsCycle: the functions. -/
import Derived.Test.YtoohpflomlhakaaWay
namespace Go.Proofs.Ytoohpflomlhakaa
open Go.RowKit Go.Sort

noncomputable def cycB (s : Int) (xs ys : List Int) : Bool := decide (3 ≤ (ys.length : Int)) && (wayB s xs ys && bitI (xs.getD (ys.getD (ys.length - 1) 0).toNat 0) (ys.getD 0 0).toNat)
set_option maxHeartbeats 2000000 in
theorem implIsCycle (s : Int) (sl : Value) (xs : List Int) (yv : Value) (ys : List Int) (w : World) (h : Rd w sl xs) (h2 : Rd w yv ys) :
    Calls Try.prog 27 #[.agg #[.int .i64 s, sl], yv] w fun e w' => e = .returned (.bool (cycB s xs ys)) ∧ Below w.heap.size w w' := by
  have HR := Lib.hid h
  have HW := Lib.hid h2
  obtain ⟨A, c, rfl, -, -, -⟩ := h
  obtain ⟨B, d, rfl, hl2, hm2, hc2⟩ := h2
  unfold maxLen at hm2
  have HC := Lib.hid hc2
  clear hc2
  rcases q0 : decide (3 ≤ (ys.length : Int)) with _ | _
  · go_enter Try.func27, Try.ntmps27
    go_wp2_with fail
    have b0 := below_alloc1 w (.cells #[.int .i64 s, .slice A xs.length c] 27)
    have x0 := TBox.new w s (.slice A xs.length c) 27
    generalize w.alloc (.cells #[.int .i64 s, .slice A xs.length c] 27) = w0 at *
    have HX0 := Lib.hid x0
    have HB0 := Lib.hid b0
    clear x0 b0
    have y0_0 := HX0.out.1
    have y1_0 := HX0.out.2
    have y0_q := cell_regrown y0_0
    have y1_q := cell_regrown y1_0
    clear y0_0 y1_0
    refine wp_region_below (by kernel_rfl) (by kernel_rfl) ?_
    repeat (go_big_quiet_step (first | (with_reducible fail)))
    refine wpQuiet_nil ?_
    intro wq hbq0
    have hbq := Lib.hid hbq0
    clear hbq0
    clear y0_q y1_q
    go_wp2
    go_ret
    exact ⟨ret_bool (by simp [cycB, q0]), Below.then HB0.out hbq.out⟩
  · have h3 := of_decide_eq_true q0
    rcases q1 : wayB s xs ys with _ | _
    · go_enter Try.func27, Try.ntmps27
      go_wp2_with fail
      have b0 := below_alloc1 w (.cells #[.int .i64 s, .slice A xs.length c] 27)
      have x0 := TBox.new w s (.slice A xs.length c) 27
      generalize w.alloc (.cells #[.int .i64 s, .slice A xs.length c] 27) = w0 at *
      have HX0 := Lib.hid x0
      have HB0 := Lib.hid b0
      clear x0 b0
      have y0_0 := HX0.out.1
      have y1_0 := HX0.out.2
      have k1 := quiet_below (w := w0) (fun W hW => implIsWay s _ xs _ ys W ((HR.out.below HB0.out).below hW) ((HW.out.below HB0.out).below hW))
      rw [q1] at k1
      have y0_q := cell_regrown y0_0
      have y1_q := cell_regrown y1_0
      clear y0_0 y1_0
      refine wp_region_below (by kernel_rfl) (by kernel_rfl) ?_
      repeat (go_big_quiet_step (first | (with_reducible exact k1 _ _)))
      refine wpQuiet_nil ?_
      intro wq hbq0
      have hbq := Lib.hid hbq0
      clear hbq0
      clear y0_q y1_q
      go_wp2
      go_ret
      exact ⟨ret_bool (by simp [cycB, q1]), Below.then HB0.out hbq.out⟩
    · have q1' := q1
      unfold wayB at q1'
      rw [Bool.and_eq_true] at q1'
      have hs := (tourB_true.1 q1'.1).1
      have hsl := (tourB_true.1 q1'.1).2.1
      have hwk := wayK_true.1 q1'.2
      obtain ⟨g, off, rfl, hg, hy⟩ := HC.out (by omega)
      have hf := (wayAt_parts (hwk 0 (by omega))).1
      have hlq := (wayAt_parts (hwk (ys.length - 1) (by omega))).1
      have hyf := hy 0 (by omega)
      have hyl := hy (ys.length - 1) (by omega)
      have hF : Hid (bitI (xs.getD (ys.getD (ys.length - 1) 0).toNat 0) (ys.getD 0 0).toNat = cycB s xs ys) := by unfold Hid; simp [cycB, q0, q1]
      rw [Nat.add_zero] at hyf
      clear hwk hy q1'
      generalize hn : ys.length = n at *
      have HN := Lib.hid hn
      clear hn
      generalize ys.getD 0 0 = y at *
      generalize ys.getD (n - 1) 0 = y' at *
      obtain ⟨m, rfl⟩ : ∃ m, n = m + 1 := ⟨n - 1, by omega⟩
      simp only [Nat.add_sub_cancel] at hyl
      have q0' : decide (3 ≤ (m : Int) + 1) = true := decide_eq_true (by omega)
      go_enter Try.func27, Try.ntmps27
      go_wp2_with fail
      have b0 := below_alloc1 w (.cells #[.int .i64 s, .slice A xs.length c] 27)
      have x0 := TBox.new w s (.slice A xs.length c) 27
      generalize w.alloc (.cells #[.int .i64 s, .slice A xs.length c] 27) = w0 at *
      have HX0 := Lib.hid x0
      have HB0 := Lib.hid b0
      clear x0 b0
      have y0_0 := HX0.out.1
      have y1_0 := HX0.out.2
      have k1 := quiet_below (w := w0) (fun W hW => implIsWay s _ xs _ ys W ((HR.out.below HB0.out).below hW) ((HW.out.below HB0.out).below hW))
      rw [q1] at k1
      have k2 := quiet_below (w := w0) (fun W hW => beats_any s (.slice A xs.length c) xs y' y W ((HR.out.below HB0.out).below hW) (by omega) (by omega) (by omega) (by omega))
      have c1 := cell_regrown ((HB0.out.cell (by exact hg)).trans hyf)
      have c2 := cell_regrown ((HB0.out.cell (by exact hg)).trans hyl)
      clear hyf hyl
      have y0_q := cell_regrown y0_0
      have y1_q := cell_regrown y1_0
      clear y0_0 y1_0
      refine wp_region_below (by kernel_rfl) (by kernel_rfl) ?_
      repeat (go_big_quiet_step (first | (with_reducible exact k1 _ _) | (with_reducible exact k2 _ _)))
      refine wpQuiet_nil ?_
      intro wq hbq0
      have hbq := Lib.hid hbq0
      clear hbq0
      clear y0_q y1_q
      go_wp2
      go_ret
      exact ⟨ret_bool hF.out, Below.then HB0.out hbq.out⟩
set_option maxHeartbeats 2000000 in
theorem specIsCycle (s : Int) (sl : Value) (xs : List Int) (yv : Value) (ys : List Int) (w : World) (h : Rd w sl xs) (h2 : Rd w yv ys) :
    Calls Try.prog 26 #[.agg #[.int .i64 s, sl], yv] w fun e w' => e = .returned (.bool (cycB s xs ys)) ∧ Below w.heap.size w w' := by
  have HR := Lib.hid h
  have HW := Lib.hid h2
  obtain ⟨A, c, rfl, -, -, -⟩ := h
  obtain ⟨B, d, rfl, hl2, hm2, hc2⟩ := h2
  unfold maxLen at hm2
  have HC := Lib.hid hc2
  clear hc2
  rcases q1 : wayB s xs ys with _ | _
  · go_enter Try.func26, Try.ntmps26
    go_wp2_with fail
    have b0 := below_alloc1 w (.cells #[.int .i64 s, .slice A xs.length c] 27)
    have x0 := TBox.new w s (.slice A xs.length c) 27
    generalize w.alloc (.cells #[.int .i64 s, .slice A xs.length c] 27) = w0 at *
    have HX0 := Lib.hid x0
    have HB0 := Lib.hid b0
    clear x0 b0
    have y0_0 := HX0.out.1
    have y1_0 := HX0.out.2
    have k1 := quiet_below (w := w0) (fun W hW => specIsWay s _ xs _ ys W ((HR.out.below HB0.out).below hW) ((HW.out.below HB0.out).below hW))
    rw [q1] at k1
    have y0_q := cell_regrown y0_0
    have y1_q := cell_regrown y1_0
    clear y0_0 y1_0
    refine wp_region_below (by kernel_rfl) (by kernel_rfl) ?_
    repeat (go_big_quiet_step (first | (with_reducible exact k1 _ _)))
    refine wpQuiet_nil ?_
    intro wq hbq0
    have hbq := Lib.hid hbq0
    clear hbq0
    clear y0_q y1_q
    go_wp2
    go_ret
    exact ⟨ret_bool (by simp [cycB, q1]), Below.then HB0.out hbq.out⟩
  · rcases q0 : decide (3 ≤ (ys.length : Int)) with _ | _
    · go_enter Try.func26, Try.ntmps26
      go_wp2_with fail
      have b0 := below_alloc1 w (.cells #[.int .i64 s, .slice A xs.length c] 27)
      have x0 := TBox.new w s (.slice A xs.length c) 27
      generalize w.alloc (.cells #[.int .i64 s, .slice A xs.length c] 27) = w0 at *
      have HX0 := Lib.hid x0
      have HB0 := Lib.hid b0
      clear x0 b0
      have y0_0 := HX0.out.1
      have y1_0 := HX0.out.2
      have k1 := quiet_below (w := w0) (fun W hW => specIsWay s _ xs _ ys W ((HR.out.below HB0.out).below hW) ((HW.out.below HB0.out).below hW))
      rw [q1] at k1
      have y0_q := cell_regrown y0_0
      have y1_q := cell_regrown y1_0
      clear y0_0 y1_0
      refine wp_region_below (by kernel_rfl) (by kernel_rfl) ?_
      repeat (go_big_quiet_step (first | (with_reducible exact k1 _ _)))
      refine wpQuiet_nil ?_
      intro wq hbq0
      have hbq := Lib.hid hbq0
      clear hbq0
      clear y0_q y1_q
      go_wp2
      go_ret
      exact ⟨ret_bool (by simp [cycB, q0]), Below.then HB0.out hbq.out⟩
    · have h3 := of_decide_eq_true q0
      have q1' := q1
      unfold wayB at q1'
      rw [Bool.and_eq_true] at q1'
      have hs := (tourB_true.1 q1'.1).1
      have hsl := (tourB_true.1 q1'.1).2.1
      have hwk := wayK_true.1 q1'.2
      obtain ⟨g, off, rfl, hg, hy⟩ := HC.out (by omega)
      have hf := (wayAt_parts (hwk 0 (by omega))).1
      have hlq := (wayAt_parts (hwk (ys.length - 1) (by omega))).1
      have hyf := hy 0 (by omega)
      have hyl := hy (ys.length - 1) (by omega)
      have hF : Hid (bitI (xs.getD (ys.getD (ys.length - 1) 0).toNat 0) (ys.getD 0 0).toNat = cycB s xs ys) := by unfold Hid; simp [cycB, q0, q1]
      rw [Nat.add_zero] at hyf
      clear hwk hy q1'
      generalize hn : ys.length = n at *
      have HN := Lib.hid hn
      clear hn
      generalize ys.getD 0 0 = y at *
      generalize ys.getD (n - 1) 0 = y' at *
      obtain ⟨m, rfl⟩ : ∃ m, n = m + 1 := ⟨n - 1, by omega⟩
      simp only [Nat.add_sub_cancel] at hyl
      have q0' : decide (3 ≤ (m : Int) + 1) = true := decide_eq_true (by omega)
      go_enter Try.func26, Try.ntmps26
      go_wp2_with fail
      have b0 := below_alloc1 w (.cells #[.int .i64 s, .slice A xs.length c] 27)
      have x0 := TBox.new w s (.slice A xs.length c) 27
      generalize w.alloc (.cells #[.int .i64 s, .slice A xs.length c] 27) = w0 at *
      have HX0 := Lib.hid x0
      have HB0 := Lib.hid b0
      clear x0 b0
      have y0_0 := HX0.out.1
      have y1_0 := HX0.out.2
      have k1 := quiet_below (w := w0) (fun W hW => specIsWay s _ xs _ ys W ((HR.out.below HB0.out).below hW) ((HW.out.below HB0.out).below hW))
      rw [q1] at k1
      have k2 := quiet_below (w := w0) (fun W hW => l02Beats_any s (.slice A xs.length c) xs y' y W ((HR.out.below HB0.out).below hW) (by omega) (by omega) (by omega) (by omega))
      have c1 := cell_regrown ((HB0.out.cell (by exact hg)).trans hyf)
      have c2 := cell_regrown ((HB0.out.cell (by exact hg)).trans hyl)
      clear hyf hyl
      have y0_q := cell_regrown y0_0
      have y1_q := cell_regrown y1_0
      clear y0_0 y1_0
      refine wp_region_below (by kernel_rfl) (by kernel_rfl) ?_
      repeat (go_big_quiet_step (first | (with_reducible exact k1 _ _) | (with_reducible exact k2 _ _)))
      refine wpQuiet_nil ?_
      intro wq hbq0
      have hbq := Lib.hid hbq0
      clear hbq0
      clear y0_q y1_q
      go_wp2
      go_ret
      exact ⟨ret_bool hF.out, Below.then HB0.out hbq.out⟩
end Go.Proofs.Ytoohpflomlhakaa
