/- FnExactStrategyOk: the functions. -/
import Derived.Test.YtoohpflomlhakaaTourOkS
import Derived.Test.YtoohpflomlhakaaMax
namespace Go.Proofs.Ytoohpflomlhakaa
open Go.RowKit Go.Sort

noncomputable def stratB (s : Int) (xs ws : List Int) : Bool := tourB s xs && (((ws.length : Int) == s) && (allB ws 0 100000 && decide (0 < ws.sum)))
theorem allB_of {xs : List Int} {lo hi : Int} (h : allB xs lo hi = true) : ∀ x ∈ xs, lo ≤ x ∧ x ≤ hi := by
  unfold allB at h; rw [List.all_eq_true] at h; exact fun x hx => inB_true.1 (h x hx)
theorem allB_true {xs : List Int} {lo hi : Int} (h : ∀ x ∈ xs, lo ≤ x ∧ x ≤ hi) : allB xs lo hi = true := by
  unfold allB; rw [List.all_eq_true]; exact fun x hx => inB_true.2 (h x hx)
theorem stratB_true {s : Int} {xs ws : List Int} : stratB s xs ws = true ↔ tourP s xs ∧ (ws.length : Int) = s ∧ (∀ x ∈ ws, 0 ≤ x ∧ x ≤ 100000) ∧ 0 < ws.sum := by
  simp only [stratB, Bool.and_eq_true, tourB_true, beq_iff_eq, decide_eq_true_eq]
  exact ⟨fun h => ⟨h.1, h.2.1, allB_of h.2.2.1, h.2.2.2⟩, fun h => ⟨h.1, h.2.1, allB_true h.2.2.1, h.2.2.2⟩⟩
theorem sum_pos {xs : List Int} (h0 : ∀ x ∈ xs, 0 ≤ x) : 0 ≤ xs.sum ∧ (0 < xs.sum ↔ ∃ x ∈ xs, x ≠ 0) := by
  induction xs with
  | nil => simp
  | cons a xs ih =>
    have ih := ih fun x hx => h0 x (by simp [hx])
    have ha := h0 a (by simp)
    rw [List.sum_cons]
    refine ⟨by omega, ?_⟩
    constructor
    · intro h
      by_cases hz : a = 0
      · obtain ⟨x, hx, hne⟩ := ih.2.1 (by omega)
        exact ⟨x, by simp [hx], hne⟩
      · exact ⟨a, by simp, hz⟩
    · rintro ⟨x, hx, hne⟩
      rw [List.mem_cons] at hx
      rcases hx with rfl | hx
      · omega
      · have := ih.2.2 ⟨x, hx, hne⟩; omega
theorem max_sum {xs : List Int} (h0 : ∀ x ∈ xs, 0 ≤ x) (hne : 0 < xs.length) : decide (0 < maxI xs) = decide (0 < xs.sum) := by
  have h1 := maxI_pos h0 hne
  have h2 := (sum_pos h0).2
  rw [decide_eq_decide, h1, h2]
theorem take_snocI {xs : List Int} {k : Nat} (hk : k < xs.length) : xs.take (k + 1) = xs.take k ++ [xs[k]?.getD 0] := by
  rw [List.take_succ_eq_append_getElem hk]
  simp [hk]
theorem sum_take_bd {xs : List Int} (B : Nat) (h : ∀ x ∈ xs, 0 ≤ x ∧ x ≤ B) (k : Nat) (hk : k ≤ xs.length) : 0 ≤ (xs.take k).sum ∧ (xs.take k).sum ≤ B * k := by
  induction k with
  | zero => simp
  | succ k ih =>
    have ih := ih (by omega)
    rw [take_snocI (by omega), List.sum_append, List.sum_singleton]
    have hx := h (xs[k]?.getD 0) (by rw [List.getElem?_eq_getElem (by omega)]; exact List.getElem_mem _)
    have : (B : Int) * ((k + 1 : Nat) : Int) = B * k + B := by rw [Int.natCast_add, Int.mul_add]; simp
    omega

set_option maxHeartbeats 1000000 in
theorem implStrat (s : Int) (sl : Value) (xs : List Int) (wv : Value) (ws : List Int) (w : World) (h : Rd w sl xs) (h2 : Rd w wv ws) :
    Calls Try.prog 19 #[.agg #[.int .i64 s, sl], wv] w fun e w' => e = .returned (.bool (stratB s xs ws)) ∧ Below w.heap.size w w' := by
  have HR := Lib.hid h
  have HW := Lib.hid h2
  obtain ⟨A, c, rfl, -, -, -⟩ := h
  obtain ⟨B, d, rfl, -, hm, -⟩ := h2
  unfold maxLen at hm
  rcases q0 : tourB s xs with _ | _
  case false =>
    go_enter Try.func19, Try.ntmps19
    go_wp2_with fail
    have b0 := below_alloc1 w (.cells #[.int .i64 s, .slice A xs.length c] 27)
    have x0 := TBox.new w s (.slice A xs.length c) 27
    generalize w.alloc (.cells #[.int .i64 s, .slice A xs.length c] 27) = w0 at *
    have HX0 := Lib.hid x0
    have HB0 := Lib.hid b0
    clear x0 b0
    have y0_0 := HX0.out.1
    have y1_0 := HX0.out.2
    go_wp2_with fail
    refine (implTourOk s _ xs _ (HR.out.below HB0.out)).mono ?_
    rintro e w1 ⟨rfl, hb⟩
    have HX1 := Lib.hid (HX0.out.below hb)
    have HB1 := Lib.hid (Below.then HB0.out hb)
    clear hb HX0 HB0 y0_0 y1_0
    have y0_1 := HX1.out.1
    have y1_1 := HX1.out.2
    rw [q0]
    go_wp2
    go_ret
    exact ⟨ret_bool (by simp [stratB, *]), HB1.out⟩
  have hs := (tourB_true.1 q0).1
  rcases q1 : ((ws.length : Int) == s) with _ | _
  case false =>
    go_enter Try.func19, Try.ntmps19
    go_wp2_with fail
    have b0 := below_alloc1 w (.cells #[.int .i64 s, .slice A xs.length c] 27)
    have x0 := TBox.new w s (.slice A xs.length c) 27
    generalize w.alloc (.cells #[.int .i64 s, .slice A xs.length c] 27) = w0 at *
    have HX0 := Lib.hid x0
    have HB0 := Lib.hid b0
    clear x0 b0
    have y0_0 := HX0.out.1
    have y1_0 := HX0.out.2
    go_wp2_with fail
    refine (implTourOk s _ xs _ (HR.out.below HB0.out)).mono ?_
    rintro e w1 ⟨rfl, hb⟩
    have HX1 := Lib.hid (HX0.out.below hb)
    have HB1 := Lib.hid (Below.then HB0.out hb)
    clear hb HX0 HB0 y0_0 y1_0
    have y0_1 := HX1.out.1
    have y1_1 := HX1.out.2
    rw [q0]
    go_wp2
    go_ret
    exact ⟨ret_bool (by simp [stratB, *]), HB1.out⟩
  rcases q2 : allB ws 0 100000 with _ | _
  case false =>
    go_enter Try.func19, Try.ntmps19
    go_wp2_with fail
    have b0 := below_alloc1 w (.cells #[.int .i64 s, .slice A xs.length c] 27)
    have x0 := TBox.new w s (.slice A xs.length c) 27
    generalize w.alloc (.cells #[.int .i64 s, .slice A xs.length c] 27) = w0 at *
    have HX0 := Lib.hid x0
    have HB0 := Lib.hid b0
    clear x0 b0
    have y0_0 := HX0.out.1
    have y1_0 := HX0.out.2
    go_wp2_with fail
    refine (implTourOk s _ xs _ (HR.out.below HB0.out)).mono ?_
    rintro e w1 ⟨rfl, hb⟩
    have HX1 := Lib.hid (HX0.out.below hb)
    have HB1 := Lib.hid (Below.then HB0.out hb)
    clear hb HX0 HB0 y0_0 y1_0
    have y0_1 := HX1.out.1
    have y1_1 := HX1.out.2
    rw [q0]
    go_wp2_with fail
    refine (allWithin_any _ ws 0 100000 _ (HW.out.below HB1.out)).mono ?_
    rintro e w2 ⟨rfl, hb⟩
    have HX2 := Lib.hid (HX1.out.below hb)
    have HB2 := Lib.hid (Below.then HB1.out hb)
    clear hb HX1 HB1 y0_1 y1_1
    have y0_2 := HX2.out.1
    have y1_2 := HX2.out.2
    rw [q2]
    go_wp2
    go_ret
    exact ⟨ret_bool (by simp [stratB, *]), HB2.out⟩
  have hA := Lib.hid (allB_of q2)
  have hL : Hid (0 < ws.length) := (by have := beq_iff_eq.1 q1; show 0 < ws.length; omega)
  go_enter Try.func19, Try.ntmps19
  go_wp2_with fail
  have b0 := below_alloc1 w (.cells #[.int .i64 s, .slice A xs.length c] 27)
  have x0 := TBox.new w s (.slice A xs.length c) 27
  generalize w.alloc (.cells #[.int .i64 s, .slice A xs.length c] 27) = w0 at *
  have HX0 := Lib.hid x0
  have HB0 := Lib.hid b0
  clear x0 b0
  have y0_0 := HX0.out.1
  have y1_0 := HX0.out.2
  go_wp2_with fail
  refine (implTourOk s _ xs _ (HR.out.below HB0.out)).mono ?_
  rintro e w1 ⟨rfl, hb⟩
  have HX1 := Lib.hid (HX0.out.below hb)
  have HB1 := Lib.hid (Below.then HB0.out hb)
  clear hb HX0 HB0 y0_0 y1_0
  have y0_1 := HX1.out.1
  have y1_1 := HX1.out.2
  rw [q0]
  go_wp2_with fail
  refine (allWithin_any _ ws 0 100000 _ (HW.out.below HB1.out)).mono ?_
  rintro e w2 ⟨rfl, hb⟩
  have HX2 := Lib.hid (HX1.out.below hb)
  have HB2 := Lib.hid (Below.then HB1.out hb)
  clear hb HX1 HB1 y0_1 y1_1
  have y0_2 := HX2.out.1
  have y1_2 := HX2.out.2
  rw [q2]
  go_wp2_with fail
  refine (max_any _ ws _ (HW.out.below HB2.out) hL.out).mono ?_
  rintro e wz ⟨rfl, rfl⟩
  have hF : Hid (decide (0 < maxI ws) = stratB s xs ws) := by
    unfold Hid
    rw [max_sum (fun x hx => (hA.out x hx).1) hL.out, stratB, q0, q1, q2]
    rfl
  go_wp2
  go_ret
  exact ⟨ret_bool hF.out, HB2.out⟩
set_option maxHeartbeats 1000000 in
theorem specStrat (s : Int) (sl : Value) (xs : List Int) (wv : Value) (ws : List Int) (w : World) (h : Rd w sl xs) (h2 : Rd w wv ws) :
    Calls Try.prog 16 #[.agg #[.int .i64 s, sl], wv] w fun e w' => e = .returned (.bool (stratB s xs ws)) ∧ Below w.heap.size w w' := by
  have HR := Lib.hid h
  obtain ⟨A, c, rfl, -, -, -⟩ := h
  obtain ⟨B, d, rfl, hl2, hm, hc2⟩ := h2
  have HC := Lib.hid hc2
  unfold maxLen at hm
  clear hc2
  rcases q0 : tourB s xs with _ | _
  case false =>
    go_enter Try.func16, Try.ntmps16
    go_wp2_with fail
    have b0 := below_alloc1 w (.cells #[.int .i64 s, .slice A xs.length c] 27)
    have x0 := TBox.new w s (.slice A xs.length c) 27
    generalize w.alloc (.cells #[.int .i64 s, .slice A xs.length c] 27) = w0 at *
    have HX0 := Lib.hid x0
    have HB0 := Lib.hid b0
    clear x0 b0
    have y0_0 := HX0.out.1
    have y1_0 := HX0.out.2
    go_wp2_with fail
    refine (specTourOk s _ xs _ (HR.out.below HB0.out)).mono ?_
    rintro e w1 ⟨rfl, hb⟩
    have HX1 := Lib.hid (HX0.out.below hb)
    have HB1 := Lib.hid (Below.then HB0.out hb)
    clear hb HX0 HB0 y0_0 y1_0
    have y0_1 := HX1.out.1
    have y1_1 := HX1.out.2
    rw [q0]
    go_wp2
    go_ret
    exact ⟨ret_bool (by simp [stratB, *] <;> (intro hh; exact absurd hh (by simpa using q1))), HB1.out⟩
  have hs := (tourB_true.1 q0).1
  rcases q1 : ((ws.length : Int) != s) with _ | _
  case true =>
    go_enter Try.func16, Try.ntmps16
    go_wp2_with fail
    have b0 := below_alloc1 w (.cells #[.int .i64 s, .slice A xs.length c] 27)
    have x0 := TBox.new w s (.slice A xs.length c) 27
    generalize w.alloc (.cells #[.int .i64 s, .slice A xs.length c] 27) = w0 at *
    have HX0 := Lib.hid x0
    have HB0 := Lib.hid b0
    clear x0 b0
    have y0_0 := HX0.out.1
    have y1_0 := HX0.out.2
    go_wp2_with fail
    refine (specTourOk s _ xs _ (HR.out.below HB0.out)).mono ?_
    rintro e w1 ⟨rfl, hb⟩
    have HX1 := Lib.hid (HX0.out.below hb)
    have HB1 := Lib.hid (Below.then HB0.out hb)
    clear hb HX0 HB0 y0_0 y1_0
    have y0_1 := HX1.out.1
    have y1_1 := HX1.out.2
    rw [q0]
    go_wp2
    go_ret
    exact ⟨ret_bool (by simp [stratB, *] <;> (intro hh; exact absurd hh (by simpa using q1))), HB1.out⟩
  go_enter Try.func16, Try.ntmps16
  go_wp2_with fail
  have b0 := below_alloc1 w (.cells #[.int .i64 s, .slice A xs.length c] 27)
  have x0 := TBox.new w s (.slice A xs.length c) 27
  generalize w.alloc (.cells #[.int .i64 s, .slice A xs.length c] 27) = w0 at *
  have HX0 := Lib.hid x0
  have HB0 := Lib.hid b0
  clear x0 b0
  have y0_0 := HX0.out.1
  have y1_0 := HX0.out.2
  go_wp2_with fail
  refine (specTourOk s _ xs _ (HR.out.below HB0.out)).mono ?_
  rintro e w1 ⟨rfl, hb⟩
  have HX1 := Lib.hid (HX0.out.below hb)
  have HB1 := Lib.hid (Below.then HB0.out hb)
  clear hb HX0 HB0 y0_0 y1_0
  have y0_1 := HX1.out.1
  have y1_1 := HX1.out.2
  rw [q0]
  have q1' : (ws.length : Int) = s := by simpa using q1
  have HL := Lib.hid q1'
  have h8 : ws.length ≤ 8 := by omega
  clear q1'
  go_wp2
  go_loop [5, 20] (fun u i => ∃ k : Nat, k ≤ ws.length ∧ i = .int .i64 k ∧ u = .int .i64 (ws.take k).sum ∧ Hid (∀ j, j < k → 0 ≤ ws.getD j 0 ∧ ws.getD j 0 ≤ 100000) ∧ (0 ≤ (ws.take k).sum ∧ (ws.take k).sum ≤ 100000 * k)) (fun _ i => ws.length - (intOf i).toNat)
  case atStart => exact ⟨0, by omega, rfl, rfl, fun j h => absurd h (by omega), by simp⟩
  case round =>
    obtain ⟨k, hk, rfl, rfl, HP, hbd⟩ := hrel
    by_cases hlt : k < ws.length
    · obtain ⟨g, off, rfl, hg, hx⟩ := HC.out (by omega)
      have hxk := (HB1.out.cell (by exact hg)).trans (hx k hlt)
      clear hx
      have hst : (ws.take (k + 1)).sum = (ws.take k).sum + ws[k] := by rw [take_snocI hlt, List.sum_append, List.sum_singleton, List.getElem?_eq_getElem hlt]; rfl
      have HS := Lib.hid hst
      clear hst
      generalize hsm : (ws.take k).sum = m at *
      clear hsm
      rcases q2 : inB ws[k] 0 100000 with _ | _
      · go_wp2_with (go_at_call 48; refine (l01In_any _ _ _ _).mono ?_; rintro e w2 ⟨rfl, rfl⟩)
        go_ret
        refine ⟨ret_bool ?_, HB1.out⟩
        rcases hS : stratB s xs ws with _ | _
        · rfl
        · exact absurd ((stratB_true.1 hS).2.2.1 _ (List.getElem_mem hlt)) (inB_false.1 q2)
      · have hq2 := inB_true.1 q2
        go_wp2_with (go_at_call 48; refine (l01In_any _ _ _ _).mono ?_; rintro e w2 ⟨rfl, rfl⟩)
        go_round
        case rel =>
          refine ⟨k + 1, by omega, by go_num, by rw [HS.out], fun j hj => ?_, by rw [HS.out]; omega⟩
          by_cases hjk : j < k
          · exact HP.out j hjk
          · obtain rfl : j = k := by omega
            simpa [hlt] using hq2
        case measure => simp [intOf]; omega
    · obtain rfl : k = ws.length := by omega
      rw [List.take_length]
      go_wp2
      go_ret
      refine ⟨ret_bool ?_, HB1.out⟩
      have hall : allB ws 0 100000 = true := allB_true fun x hx => by
        obtain ⟨j, hj, rfl⟩ := List.mem_iff_getElem.1 hx
        have := HP.out j hj
        simpa [hj] using this
      have he : ((ws.length : Int) == s) = true := beq_iff_eq.2 HL.out
      rw [stratB, q0, he, hall]
      rfl
end Go.Proofs.Ytoohpflomlhakaa
