/- FnExactBalanceOf, FnExactIsSafe, FnExactBestAnswer: the functions. -/
import Derived.Test.YtoohpflomlhakaaBal
namespace Go.Proofs.Ytoohpflomlhakaa
open Go.RowKit Go.Sort

noncomputable def balOfI (s : Int) (xs ws : List Int) (b : Int) : Int := if (stratB s xs ws && inB b 0 (s - 1)) = true then balI xs ws b.toNat else 0
/-- no balance of the first k is negative -/
def safeK (xs ws : List Int) (k : Nat) : Bool := (List.range k).all fun b => decide (0 ≤ balI xs ws b)
noncomputable def safeB (s : Int) (xs ws : List Int) : Bool := stratB s xs ws && safeK xs ws ws.length
theorem safeK_true {xs ws : List Int} {k : Nat} : safeK xs ws k = true ↔ ∀ b, b < k → 0 ≤ balI xs ws b := by simp [safeK]
theorem safeK_no {xs ws : List Int} {k n : Nat} (hk : k < n) (h : balI xs ws k < 0) : safeK xs ws n = false := by
  rcases hq : safeK xs ws n with _ | _
  · rfl
  · have := safeK_true.1 hq k hk; omega
def bestN (xs ws : List Int) : Nat → Nat
  | 0 => 0
  | k + 1 => if balI xs ws k < balI xs ws (bestN xs ws k) then k else bestN xs ws k
theorem bestN_lt (xs ws : List Int) (k : Nat) : bestN xs ws k ≤ k - 1 := by
  induction k with
  | zero => simp [bestN]
  | succ k ih => simp only [bestN]; split <;> omega
noncomputable def bestI (s : Int) (xs ws : List Int) : Int := if stratB s xs ws = true then bestN xs ws ws.length else -1
theorem strat_dim {s : Int} {xs ws : List Int} (h : stratB s xs ws = true) : 1 ≤ s ∧ s ≤ 8 ∧ (ws.length : Int) = s ∧ (xs.length : Int) = s := by
  obtain ⟨tp, hl, -, -⟩ := stratB_true.1 h
  exact ⟨tp.1.1, tp.1.2, hl, tp.2.1⟩
theorem balI_bd {s : Int} {xs ws : List Int} (h : stratB s xs ws = true) (b : Nat) : -800000 ≤ balI xs ws b ∧ balI xs ws b ≤ 800000 := by
  have hd := strat_dim h
  have := balK_bd (xs := xs) b (stratB_true.1 h).2.2.1 ws.length (Nat.le_refl _)
  unfold balI; omega

set_option maxHeartbeats 1000000 in
theorem implBalanceOf (s : Int) (sl : Value) (xs : List Int) (wv : Value) (ws : List Int) (b : Int) (w : World) (h : Rd w sl xs) (h2 : Rd w wv ws) :
    Calls Try.prog 39 #[.agg #[.int .i64 s, sl], wv, .int .i64 b] w fun e w' => e = .returned (.int .i64 (balOfI s xs ws b)) ∧ Below w.heap.size w w' := by
  have HR := Lib.hid h
  have HW := Lib.hid h2
  obtain ⟨A, c, rfl, -, -, -⟩ := h
  obtain ⟨B, d, rfl, -, hm, -⟩ := h2
  unfold maxLen at hm
  rcases q0 : stratB s xs ws with _ | _
  case false =>
    go_enter Try.func39, Try.ntmps39
    go_wp2_with fail
    have b0 := below_alloc1 w (.cells #[.int .i64 s, .slice A xs.length c] 27)
    have x0 := TBox.new w s (.slice A xs.length c) 27
    generalize w.alloc (.cells #[.int .i64 s, .slice A xs.length c] 27) = w0 at *
    have HX0 := Lib.hid x0
    have HB0 := Lib.hid b0
    clear x0 b0
    have y0_0 := HX0.out.1
    have y1_0 := HX0.out.2
    go_wp2_with fail
    refine (implStrat s _ xs _ ws _ (HR.out.below HB0.out) (HW.out.below HB0.out)).mono ?_
    rintro e w1 ⟨rfl, hb⟩
    have HX1 := Lib.hid (HX0.out.below hb)
    have HB1 := Lib.hid (Below.then HB0.out hb)
    clear hb HX0 HB0 y0_0 y1_0
    have y0_1 := HX1.out.1
    have y1_1 := HX1.out.2
    rw [q0]
    go_wp2
    go_ret
    exact ⟨ret_int (by simp [balOfI, *]), HB1.out⟩
  have hs := strat_dim q0
  rcases q1 : inB b 0 (s - 1) with _ | _
  case false =>
    go_enter Try.func39, Try.ntmps39
    go_wp2_with fail
    have b0 := below_alloc1 w (.cells #[.int .i64 s, .slice A xs.length c] 27)
    have x0 := TBox.new w s (.slice A xs.length c) 27
    generalize w.alloc (.cells #[.int .i64 s, .slice A xs.length c] 27) = w0 at *
    have HX0 := Lib.hid x0
    have HB0 := Lib.hid b0
    clear x0 b0
    have y0_0 := HX0.out.1
    have y1_0 := HX0.out.2
    go_wp2_with fail
    refine (implStrat s _ xs _ ws _ (HR.out.below HB0.out) (HW.out.below HB0.out)).mono ?_
    rintro e w1 ⟨rfl, hb⟩
    have HX1 := Lib.hid (HX0.out.below hb)
    have HB1 := Lib.hid (Below.then HB0.out hb)
    clear hb HX0 HB0 y0_0 y1_0
    have y0_1 := HX1.out.1
    have y1_1 := HX1.out.2
    rw [q0]
    go_wp2_with fail
    refine (has_any s (.slice A xs.length c) b _ (by omega)).mono ?_
    rintro e w2 ⟨rfl, hb⟩
    have HX2 := Lib.hid (HX1.out.below hb)
    have HB2 := Lib.hid (Below.then HB1.out hb)
    clear hb HX1 HB1 y0_1 y1_1
    have y0_2 := HX2.out.1
    have y1_2 := HX2.out.2
    rw [q1]
    go_wp2
    go_ret
    exact ⟨ret_int (by simp [balOfI, *]), HB2.out⟩
  have hb1 := inB_true.1 q1
  go_enter Try.func39, Try.ntmps39
  go_wp2_with fail
  have b0 := below_alloc1 w (.cells #[.int .i64 s, .slice A xs.length c] 27)
  have x0 := TBox.new w s (.slice A xs.length c) 27
  generalize w.alloc (.cells #[.int .i64 s, .slice A xs.length c] 27) = w0 at *
  have HX0 := Lib.hid x0
  have HB0 := Lib.hid b0
  clear x0 b0
  have y0_0 := HX0.out.1
  have y1_0 := HX0.out.2
  go_wp2_with fail
  refine (implStrat s _ xs _ ws _ (HR.out.below HB0.out) (HW.out.below HB0.out)).mono ?_
  rintro e w1 ⟨rfl, hb⟩
  have HX1 := Lib.hid (HX0.out.below hb)
  have HB1 := Lib.hid (Below.then HB0.out hb)
  clear hb HX0 HB0 y0_0 y1_0
  have y0_1 := HX1.out.1
  have y1_1 := HX1.out.2
  rw [q0]
  go_wp2_with fail
  refine (has_any s (.slice A xs.length c) b _ (by omega)).mono ?_
  rintro e w2 ⟨rfl, hb⟩
  have HX2 := Lib.hid (HX1.out.below hb)
  have HB2 := Lib.hid (Below.then HB1.out hb)
  clear hb HX1 HB1 y0_1 y1_1
  have y0_2 := HX2.out.1
  have y1_2 := HX2.out.2
  rw [q1]
  go_wp2_with fail
  refine (balance_any s _ xs _ ws b _ (HR.out.below HB2.out) (HW.out.below HB2.out) q0 (by omega) (by omega)).mono ?_
  rintro e w3 ⟨rfl, hb⟩
  have HX3 := Lib.hid (HX2.out.below hb)
  have HB3 := Lib.hid (Below.then HB2.out hb)
  clear hb HX2 HB2 y0_2 y1_2
  have y0_3 := HX3.out.1
  have y1_3 := HX3.out.2
  go_wp2
  go_ret
  exact ⟨ret_int (by simp [balOfI, q0, q1]), HB3.out⟩
set_option maxHeartbeats 1000000 in
theorem specBalanceOf (s : Int) (sl : Value) (xs : List Int) (wv : Value) (ws : List Int) (b : Int) (w : World) (h : Rd w sl xs) (h2 : Rd w wv ws) :
    Calls Try.prog 38 #[.agg #[.int .i64 s, sl], wv, .int .i64 b] w fun e w' => e = .returned (.int .i64 (balOfI s xs ws b)) ∧ Below w.heap.size w w' := by
  have HR := Lib.hid h
  have HW := Lib.hid h2
  obtain ⟨A, c, rfl, -, -, -⟩ := h
  obtain ⟨B, d, rfl, -, hm, -⟩ := h2
  unfold maxLen at hm
  rcases q0 : stratB s xs ws with _ | _
  case false =>
    go_enter Try.func38, Try.ntmps38
    go_wp2_with fail
    have b0 := below_alloc1 w (.cells #[.int .i64 s, .slice A xs.length c] 27)
    have x0 := TBox.new w s (.slice A xs.length c) 27
    generalize w.alloc (.cells #[.int .i64 s, .slice A xs.length c] 27) = w0 at *
    have HX0 := Lib.hid x0
    have HB0 := Lib.hid b0
    clear x0 b0
    have y0_0 := HX0.out.1
    have y1_0 := HX0.out.2
    go_wp2_with fail
    refine (specStrat s _ xs _ ws _ (HR.out.below HB0.out) (HW.out.below HB0.out)).mono ?_
    rintro e w1 ⟨rfl, hb⟩
    have HX1 := Lib.hid (HX0.out.below hb)
    have HB1 := Lib.hid (Below.then HB0.out hb)
    clear hb HX0 HB0 y0_0 y1_0
    have y0_1 := HX1.out.1
    have y1_1 := HX1.out.2
    rw [q0]
    go_wp2
    go_ret
    exact ⟨ret_int (by simp [balOfI, *]), HB1.out⟩
  have hs := strat_dim q0
  rcases q1 : inB b 0 (s - 1) with _ | _
  case false =>
    go_enter Try.func38, Try.ntmps38
    go_wp2_with fail
    have b0 := below_alloc1 w (.cells #[.int .i64 s, .slice A xs.length c] 27)
    have x0 := TBox.new w s (.slice A xs.length c) 27
    generalize w.alloc (.cells #[.int .i64 s, .slice A xs.length c] 27) = w0 at *
    have HX0 := Lib.hid x0
    have HB0 := Lib.hid b0
    clear x0 b0
    have y0_0 := HX0.out.1
    have y1_0 := HX0.out.2
    go_wp2_with fail
    refine (specStrat s _ xs _ ws _ (HR.out.below HB0.out) (HW.out.below HB0.out)).mono ?_
    rintro e w1 ⟨rfl, hb⟩
    have HX1 := Lib.hid (HX0.out.below hb)
    have HB1 := Lib.hid (Below.then HB0.out hb)
    clear hb HX0 HB0 y0_0 y1_0
    have y0_1 := HX1.out.1
    have y1_1 := HX1.out.2
    rw [q0]
    go_wp2_with fail
    refine (l01In_any _ _ _ _).mono ?_
    rintro e wz ⟨rfl, rfl⟩
    rw [q1]
    go_wp2
    go_ret
    exact ⟨ret_int (by simp [balOfI, *]), HB1.out⟩
  have hb1 := inB_true.1 q1
  go_enter Try.func38, Try.ntmps38
  go_wp2_with fail
  have b0 := below_alloc1 w (.cells #[.int .i64 s, .slice A xs.length c] 27)
  have x0 := TBox.new w s (.slice A xs.length c) 27
  generalize w.alloc (.cells #[.int .i64 s, .slice A xs.length c] 27) = w0 at *
  have HX0 := Lib.hid x0
  have HB0 := Lib.hid b0
  clear x0 b0
  have y0_0 := HX0.out.1
  have y1_0 := HX0.out.2
  go_wp2_with fail
  refine (specStrat s _ xs _ ws _ (HR.out.below HB0.out) (HW.out.below HB0.out)).mono ?_
  rintro e w1 ⟨rfl, hb⟩
  have HX1 := Lib.hid (HX0.out.below hb)
  have HB1 := Lib.hid (Below.then HB0.out hb)
  clear hb HX0 HB0 y0_0 y1_0
  have y0_1 := HX1.out.1
  have y1_1 := HX1.out.2
  rw [q0]
  go_wp2_with fail
  refine (l01In_any _ _ _ _).mono ?_
  rintro e wz ⟨rfl, rfl⟩
  rw [q1]
  go_wp2_with fail
  refine (l10Balance_any s _ xs _ ws b _ (HR.out.below HB1.out) (HW.out.below HB1.out) q0 (by omega) (by omega)).mono ?_
  rintro e w2 ⟨rfl, hb⟩
  have HX2 := Lib.hid (HX1.out.below hb)
  have HB2 := Lib.hid (Below.then HB1.out hb)
  clear hb HX1 HB1 y0_1 y1_1
  have y0_2 := HX2.out.1
  have y1_2 := HX2.out.2
  go_wp2
  go_ret
  exact ⟨ret_int (by simp [balOfI, q0, q1]), HB2.out⟩

set_option maxHeartbeats 1000000 in
theorem implIsSafe (s : Int) (sl : Value) (xs : List Int) (wv : Value) (ws : List Int) (w : World) (h : Rd w sl xs) (h2 : Rd w wv ws) :
    Calls Try.prog 41 #[.agg #[.int .i64 s, sl], wv] w fun e w' => e = .returned (.bool (safeB s xs ws)) ∧ Below w.heap.size w w' := by
  have HR := Lib.hid h
  have HW := Lib.hid h2
  obtain ⟨A, c, rfl, -, -, -⟩ := h
  obtain ⟨B, d, rfl, -, hm, -⟩ := h2
  unfold maxLen at hm
  rcases q0 : stratB s xs ws with _ | _
  case false =>
    go_enter Try.func41, Try.ntmps41
    go_wp2_with fail
    have b0 := below_alloc1 w (.cells #[.int .i64 s, .slice A xs.length c] 27)
    have x0 := TBox.new w s (.slice A xs.length c) 27
    generalize w.alloc (.cells #[.int .i64 s, .slice A xs.length c] 27) = w0 at *
    have HX0 := Lib.hid x0
    have HB0 := Lib.hid b0
    clear x0 b0
    have y0_0 := HX0.out.1
    have y1_0 := HX0.out.2
    go_wp2_with fail
    refine (implStrat s _ xs _ ws _ (HR.out.below HB0.out) (HW.out.below HB0.out)).mono ?_
    rintro e w1 ⟨rfl, hb⟩
    have HX1 := Lib.hid (HX0.out.below hb)
    have HB1 := Lib.hid (Below.then HB0.out hb)
    clear hb HX0 HB0 y0_0 y1_0
    have y0_1 := HX1.out.1
    have y1_1 := HX1.out.2
    rw [q0]
    go_wp2
    go_ret
    exact ⟨ret_bool (by simp [safeB, *]), HB1.out⟩
  have hs := strat_dim q0
  go_enter Try.func41, Try.ntmps41
  go_wp2_with fail
  have b0 := below_alloc1 w (.cells #[.int .i64 s, .slice A xs.length c] 27)
  have x0 := TBox.new w s (.slice A xs.length c) 27
  generalize w.alloc (.cells #[.int .i64 s, .slice A xs.length c] 27) = w0 at *
  have HX0 := Lib.hid x0
  have HB0 := Lib.hid b0
  clear x0 b0
  have y0_0 := HX0.out.1
  have y1_0 := HX0.out.2
  go_wp2_with fail
  refine (implStrat s _ xs _ ws _ (HR.out.below HB0.out) (HW.out.below HB0.out)).mono ?_
  rintro e w1 ⟨rfl, hb⟩
  have HX1 := Lib.hid (HX0.out.below hb)
  have HB1 := Lib.hid (Below.then HB0.out hb)
  clear hb HX0 HB0 y0_0 y1_0
  have y0_1 := HX1.out.1
  have y1_1 := HX1.out.2
  rw [q0]
  have HS := Lib.hid hs.2.2.1
  go_wp2
  go_loopw [12] (fun i wr => ∃ k : Nat, k ≤ ws.length ∧ i = .int .i64 k ∧ Hid (∀ b, b < k → 0 ≤ balI xs ws b) ∧ Below w.heap.size w wr ∧ TBox wr w.heap.size s (.slice A xs.length c)) (fun i _ => ws.length - (intOf i).toNat)
  case atStart => exact ⟨0, by omega, rfl, fun _ h => absurd h (by omega), HB1.out, HX1.out⟩
  case round =>
    obtain ⟨k, hk, rfl, HP, hb, hx⟩ := hrel
    have HB2 := Lib.hid hb
    have HX2 := Lib.hid hx
    have y0_2 := hx.1
    have y1_2 := hx.2
    clear hx hb HB1 HX1 y0_1 y1_1
    by_cases hlt : k < ws.length
    · have hbd := balI_bd q0 k
      go_wp2_with fail
      refine (balance_any s _ xs _ ws k _ (HR.out.below HB2.out) (HW.out.below HB2.out) q0 (by omega) (by omega)).mono ?_
      rintro e w3 ⟨rfl, hb⟩
      have HX3 := Lib.hid (HX2.out.below hb)
      have HB3 := Lib.hid (Below.then HB2.out hb)
      clear hb HX2 HB2 y0_2 y1_2
      have y0_3 := HX3.out.1
      have y1_3 := HX3.out.2
      rw [show ((k : Int)).toNat = k from rfl]
      rcases q2 : decide (balI xs ws k < 0) with _ | _
      · have hp := of_decide_eq_false q2
        go_wp2
        go_roundw
        case rel =>
          refine ⟨k + 1, by omega, by go_num, fun b hb => ?_, HB3.out, HX3.out⟩
          by_cases hbk : b < k
          · exact HP.out b hbk
          · obtain rfl : b = k := by omega
            omega
        case measure => simp [intOf]; omega
      · have hp := of_decide_eq_true q2
        go_wp2
        go_ret
        exact ⟨ret_bool (by rw [safeB, q0, safeK_no hlt hp]; rfl), HB3.out⟩
    · obtain rfl : k = ws.length := by omega
      go_wp2
      go_ret
      exact ⟨ret_bool (by rw [safeB, q0, safeK_true.2 HP.out]; rfl), HB2.out⟩
set_option maxHeartbeats 1000000 in
theorem l10Safe_any (s : Int) (sl : Value) (xs : List Int) (wv : Value) (ws : List Int) (w : World) (h : Rd w sl xs) (h2 : Rd w wv ws) (q0 : stratB s xs ws = true) :
    Calls Try.prog 72 #[.agg #[.int .i64 s, sl], wv] w fun e w' => e = .returned (.bool (safeK xs ws ws.length)) ∧ Below w.heap.size w w' := by
  have HR := Lib.hid h
  have HW := Lib.hid h2
  obtain ⟨A, c, rfl, -, -, -⟩ := h
  obtain ⟨B, d, rfl, -, hm, -⟩ := h2
  unfold maxLen at hm
  have hs := strat_dim q0
  have HS := Lib.hid hs.2.2.1
  go_enter Try.func72, Try.ntmps72
  go_wp2_with fail
  have b0 := below_alloc1 w (.cells #[.int .i64 s, .slice A xs.length c] 27)
  have x0 := TBox.new w s (.slice A xs.length c) 27
  generalize w.alloc (.cells #[.int .i64 s, .slice A xs.length c] 27) = w0 at *
  have HX0 := Lib.hid x0
  have HB0 := Lib.hid b0
  clear x0 b0
  have y0_0 := HX0.out.1
  have y1_0 := HX0.out.2
  go_wp2
  go_loopw [8] (fun i wr => ∃ k : Nat, k ≤ ws.length ∧ i = .int .i64 k ∧ Hid (∀ b, b < k → 0 ≤ balI xs ws b) ∧ Below w.heap.size w wr ∧ TBox wr w.heap.size s (.slice A xs.length c)) (fun i _ => ws.length - (intOf i).toNat)
  case atStart => exact ⟨0, by omega, rfl, fun _ h => absurd h (by omega), HB0.out, HX0.out⟩
  case round =>
    obtain ⟨k, hk, rfl, HP, hb, hx⟩ := hrel
    have HB2 := Lib.hid hb
    have HX2 := Lib.hid hx
    have y0_2 := hx.1
    have y1_2 := hx.2
    clear hx hb HB0 HX0 y0_0 y1_0
    by_cases hlt : k < ws.length
    · have hbd := balI_bd q0 k
      go_wp2_with fail
      refine (l10Balance_any s _ xs _ ws k _ (HR.out.below HB2.out) (HW.out.below HB2.out) q0 (by omega) (by omega)).mono ?_
      rintro e w3 ⟨rfl, hb⟩
      have HX3 := Lib.hid (HX2.out.below hb)
      have HB3 := Lib.hid (Below.then HB2.out hb)
      clear hb HX2 HB2 y0_2 y1_2
      have y0_3 := HX3.out.1
      have y1_3 := HX3.out.2
      rw [show ((k : Int)).toNat = k from rfl]
      rcases q2 : decide (balI xs ws k < 0) with _ | _
      · have hp := of_decide_eq_false q2
        go_wp2
        go_roundw
        case rel =>
          refine ⟨k + 1, by omega, by go_num, fun b hb => ?_, HB3.out, HX3.out⟩
          by_cases hbk : b < k
          · exact HP.out b hbk
          · obtain rfl : b = k := by omega
            omega
        case measure => simp [intOf]; omega
      · have hp := of_decide_eq_true q2
        go_wp2
        go_ret
        exact ⟨ret_bool (by rw [safeK_no hlt hp]), HB3.out⟩
    · obtain rfl : k = ws.length := by omega
      go_wp2
      go_ret
      exact ⟨ret_bool (by rw [safeK_true.2 HP.out]), HB2.out⟩
set_option maxHeartbeats 1000000 in
theorem specIsSafe (s : Int) (sl : Value) (xs : List Int) (wv : Value) (ws : List Int) (w : World) (h : Rd w sl xs) (h2 : Rd w wv ws) :
    Calls Try.prog 40 #[.agg #[.int .i64 s, sl], wv] w fun e w' => e = .returned (.bool (safeB s xs ws)) ∧ Below w.heap.size w w' := by
  have HR := Lib.hid h
  have HW := Lib.hid h2
  obtain ⟨A, c, rfl, -, -, -⟩ := h
  obtain ⟨B, d, rfl, -, hm, -⟩ := h2
  unfold maxLen at hm
  rcases q0 : stratB s xs ws with _ | _
  case false =>
    go_enter Try.func40, Try.ntmps40
    go_wp2_with fail
    have b0 := below_alloc1 w (.cells #[.int .i64 s, .slice A xs.length c] 27)
    have x0 := TBox.new w s (.slice A xs.length c) 27
    generalize w.alloc (.cells #[.int .i64 s, .slice A xs.length c] 27) = w0 at *
    have HX0 := Lib.hid x0
    have HB0 := Lib.hid b0
    clear x0 b0
    have y0_0 := HX0.out.1
    have y1_0 := HX0.out.2
    go_wp2_with fail
    refine (specStrat s _ xs _ ws _ (HR.out.below HB0.out) (HW.out.below HB0.out)).mono ?_
    rintro e w1 ⟨rfl, hb⟩
    have HX1 := Lib.hid (HX0.out.below hb)
    have HB1 := Lib.hid (Below.then HB0.out hb)
    clear hb HX0 HB0 y0_0 y1_0
    have y0_1 := HX1.out.1
    have y1_1 := HX1.out.2
    rw [q0]
    go_wp2
    go_ret
    exact ⟨ret_bool (by simp [safeB, *]), HB1.out⟩
  go_enter Try.func40, Try.ntmps40
  go_wp2_with fail
  have b0 := below_alloc1 w (.cells #[.int .i64 s, .slice A xs.length c] 27)
  have x0 := TBox.new w s (.slice A xs.length c) 27
  generalize w.alloc (.cells #[.int .i64 s, .slice A xs.length c] 27) = w0 at *
  have HX0 := Lib.hid x0
  have HB0 := Lib.hid b0
  clear x0 b0
  have y0_0 := HX0.out.1
  have y1_0 := HX0.out.2
  go_wp2_with fail
  refine (specStrat s _ xs _ ws _ (HR.out.below HB0.out) (HW.out.below HB0.out)).mono ?_
  rintro e w1 ⟨rfl, hb⟩
  have HX1 := Lib.hid (HX0.out.below hb)
  have HB1 := Lib.hid (Below.then HB0.out hb)
  clear hb HX0 HB0 y0_0 y1_0
  have y0_1 := HX1.out.1
  have y1_1 := HX1.out.2
  rw [q0]
  go_wp2_with fail
  refine (l10Safe_any s _ xs _ ws _ (HR.out.below HB1.out) (HW.out.below HB1.out) q0).mono ?_
  rintro e w2 ⟨rfl, hb⟩
  have HX2 := Lib.hid (HX1.out.below hb)
  have HB2 := Lib.hid (Below.then HB1.out hb)
  clear hb HX1 HB1 y0_1 y1_1
  have y0_2 := HX2.out.1
  have y1_2 := HX2.out.2
  go_wp2
  go_ret
  exact ⟨ret_bool (by simp [safeB, q0]), HB2.out⟩

set_option maxHeartbeats 1000000 in
theorem implBest (s : Int) (sl : Value) (xs : List Int) (wv : Value) (ws : List Int) (w : World) (h : Rd w sl xs) (h2 : Rd w wv ws) :
    Calls Try.prog 43 #[.agg #[.int .i64 s, sl], wv] w fun e w' => e = .returned (.int .i64 (bestI s xs ws)) ∧ Below w.heap.size w w' := by
  have HR := Lib.hid h
  have HW := Lib.hid h2
  obtain ⟨A, c, rfl, -, -, -⟩ := h
  obtain ⟨B, d, rfl, -, hm, -⟩ := h2
  unfold maxLen at hm
  rcases q0 : stratB s xs ws with _ | _
  case false =>
    go_enter Try.func43, Try.ntmps43
    go_wp2_with fail
    have b0 := below_alloc1 w (.cells #[.int .i64 s, .slice A xs.length c] 27)
    have x0 := TBox.new w s (.slice A xs.length c) 27
    generalize w.alloc (.cells #[.int .i64 s, .slice A xs.length c] 27) = w0 at *
    have HX0 := Lib.hid x0
    have HB0 := Lib.hid b0
    clear x0 b0
    have y0_0 := HX0.out.1
    have y1_0 := HX0.out.2
    go_wp2_with fail
    refine (implStrat s _ xs _ ws _ (HR.out.below HB0.out) (HW.out.below HB0.out)).mono ?_
    rintro e w1 ⟨rfl, hb⟩
    have HX1 := Lib.hid (HX0.out.below hb)
    have HB1 := Lib.hid (Below.then HB0.out hb)
    clear hb HX0 HB0 y0_0 y1_0
    have y0_1 := HX1.out.1
    have y1_1 := HX1.out.2
    rw [q0]
    go_wp2
    go_ret
    exact ⟨ret_int (by simp [bestI, *]), HB1.out⟩
  have hs := strat_dim q0
  go_enter Try.func43, Try.ntmps43
  go_wp2_with fail
  have b0 := below_alloc1 w (.cells #[.int .i64 s, .slice A xs.length c] 27)
  have x0 := TBox.new w s (.slice A xs.length c) 27
  generalize w.alloc (.cells #[.int .i64 s, .slice A xs.length c] 27) = w0 at *
  have HX0 := Lib.hid x0
  have HB0 := Lib.hid b0
  clear x0 b0
  have y0_0 := HX0.out.1
  have y1_0 := HX0.out.2
  go_wp2_with fail
  refine (implStrat s _ xs _ ws _ (HR.out.below HB0.out) (HW.out.below HB0.out)).mono ?_
  rintro e w1 ⟨rfl, hb⟩
  have HX1 := Lib.hid (HX0.out.below hb)
  have HB1 := Lib.hid (Below.then HB0.out hb)
  clear hb HX0 HB0 y0_0 y1_0
  have y0_1 := HX1.out.1
  have y1_1 := HX1.out.2
  rw [q0]
  have HS := Lib.hid hs.2.2.1
  go_wp2
  go_loopw [5, 13] (fun u i wr => ∃ k : Nat, k ≤ ws.length ∧ i = .int .i64 k ∧ u = .int .i64 (bestN xs ws k : Nat) ∧ Below w.heap.size w wr ∧ TBox wr w.heap.size s (.slice A xs.length c)) (fun _ i _ => ws.length - (intOf i).toNat)
  case atStart => exact ⟨0, by omega, rfl, rfl, HB1.out, HX1.out⟩
  case round =>
    obtain ⟨k, hk, rfl, rfl, hb, hx⟩ := hrel
    have HB0 := Lib.hid hb
    have y0_0 := hx.1
    have y1_0 := hx.2
    have hlb := bestN_lt xs ws k
    have hst : Hid (bestN xs ws (k + 1) = if balI xs ws k < balI xs ws (bestN xs ws k) then k else bestN xs ws k) := rfl
    have HX0 := Lib.hid hx
    clear hx hb HB1 HX1 y0_1 y1_1
    generalize hbm : bestN xs ws k = m at *
    by_cases hlt : k < ws.length
    · have hbd := balI_bd q0 k
      have hbd2 := balI_bd q0 m
      have k1 := quiet_below (w := wr) (fun W hW => balance_any s (.slice A xs.length c) xs _ ws k W ((HR.out.below HB0.out).below hW) ((HW.out.below HB0.out).below hW) q0 (by omega) (by omega))
      have k2 := quiet_below (w := wr) (fun W hW => balance_any s (.slice A xs.length c) xs _ ws m W ((HR.out.below HB0.out).below hW) ((HW.out.below HB0.out).below hW) q0 (by omega) (by omega))
      rw [show ((k : Int)).toNat = k from rfl] at k1
      rw [show ((m : Int)).toNat = m from rfl] at k2
      clear hbm
      rcases q2 : decide (balI xs ws k < balI xs ws m) with _ | _
      · have hp := of_decide_eq_false q2
        go_wp2_with fail
        have y0_q := cell_regrown y0_0
        have y1_q := cell_regrown y1_0
        clear y0_0 y1_0
        refine wp_region_below (by kernel_rfl) (by kernel_rfl) ?_
        repeat (go_big_quiet_step (first | (with_reducible exact k1 _ _) | (with_reducible exact k2 _ _)))
        refine wpQuiet_nil ?_
        intro wq hbq0
        have hbq := Lib.hid hbq0
        clear hbq0
        clear y0_q y1_q
        go_wp2
        go_roundw
        case rel => exact ⟨k + 1, by omega, by go_num, by rw [hst.out, if_neg (by omega)], Below.then HB0.out hbq.out, HX0.out.below hbq.out⟩
        case measure => simp [intOf]; omega
      · have hp := of_decide_eq_true q2
        go_wp2_with fail
        have y0_q := cell_regrown y0_0
        have y1_q := cell_regrown y1_0
        clear y0_0 y1_0
        refine wp_region_below (by kernel_rfl) (by kernel_rfl) ?_
        repeat (go_big_quiet_step (first | (with_reducible exact k1 _ _) | (with_reducible exact k2 _ _)))
        refine wpQuiet_nil ?_
        intro wq hbq0
        have hbq := Lib.hid hbq0
        clear hbq0
        clear y0_q y1_q
        go_wp2
        go_roundw
        case rel => exact ⟨k + 1, by omega, by go_num, by rw [hst.out, if_pos hp], Below.then HB0.out hbq.out, HX0.out.below hbq.out⟩
        case measure => simp [intOf]; omega
    · obtain rfl : k = ws.length := by omega
      go_wp2
      go_ret
      exact ⟨ret_int (by rw [bestI, q0, hbm]; rfl), HB0.out⟩
set_option maxHeartbeats 1000000 in
theorem specBest (s : Int) (sl : Value) (xs : List Int) (wv : Value) (ws : List Int) (w : World) (h : Rd w sl xs) (h2 : Rd w wv ws) :
    Calls Try.prog 42 #[.agg #[.int .i64 s, sl], wv] w fun e w' => e = .returned (.int .i64 (bestI s xs ws)) ∧ Below w.heap.size w w' := by
  have HR := Lib.hid h
  have HW := Lib.hid h2
  obtain ⟨A, c, rfl, -, -, -⟩ := h
  obtain ⟨B, d, rfl, -, hm, -⟩ := h2
  unfold maxLen at hm
  rcases q0 : stratB s xs ws with _ | _
  case false =>
    go_enter Try.func42, Try.ntmps42
    go_wp2_with fail
    have b0 := below_alloc1 w (.cells #[.int .i64 s, .slice A xs.length c] 27)
    have x0 := TBox.new w s (.slice A xs.length c) 27
    generalize w.alloc (.cells #[.int .i64 s, .slice A xs.length c] 27) = w0 at *
    have HX0 := Lib.hid x0
    have HB0 := Lib.hid b0
    clear x0 b0
    have y0_0 := HX0.out.1
    have y1_0 := HX0.out.2
    go_wp2_with fail
    refine (specStrat s _ xs _ ws _ (HR.out.below HB0.out) (HW.out.below HB0.out)).mono ?_
    rintro e w1 ⟨rfl, hb⟩
    have HX1 := Lib.hid (HX0.out.below hb)
    have HB1 := Lib.hid (Below.then HB0.out hb)
    clear hb HX0 HB0 y0_0 y1_0
    have y0_1 := HX1.out.1
    have y1_1 := HX1.out.2
    rw [q0]
    go_wp2
    go_ret
    exact ⟨ret_int (by simp [bestI, *]), HB1.out⟩
  have hs := strat_dim q0
  go_enter Try.func42, Try.ntmps42
  go_wp2_with fail
  have b0 := below_alloc1 w (.cells #[.int .i64 s, .slice A xs.length c] 27)
  have x0 := TBox.new w s (.slice A xs.length c) 27
  generalize w.alloc (.cells #[.int .i64 s, .slice A xs.length c] 27) = w0 at *
  have HX0 := Lib.hid x0
  have HB0 := Lib.hid b0
  clear x0 b0
  have y0_0 := HX0.out.1
  have y1_0 := HX0.out.2
  go_wp2_with fail
  refine (specStrat s _ xs _ ws _ (HR.out.below HB0.out) (HW.out.below HB0.out)).mono ?_
  rintro e w1 ⟨rfl, hb⟩
  have HX1 := Lib.hid (HX0.out.below hb)
  have HB1 := Lib.hid (Below.then HB0.out hb)
  clear hb HX0 HB0 y0_0 y1_0
  have y0_1 := HX1.out.1
  have y1_1 := HX1.out.2
  rw [q0]
  have HS := Lib.hid hs.2.2.1
  go_wp2
  go_loopw [5, 13] (fun u i wr => ∃ k : Nat, k ≤ ws.length ∧ i = .int .i64 k ∧ u = .int .i64 (bestN xs ws k : Nat) ∧ Below w.heap.size w wr ∧ TBox wr w.heap.size s (.slice A xs.length c)) (fun _ i _ => ws.length - (intOf i).toNat)
  case atStart => exact ⟨0, by omega, rfl, rfl, HB1.out, HX1.out⟩
  case round =>
    obtain ⟨k, hk, rfl, rfl, hb, hx⟩ := hrel
    have HB0 := Lib.hid hb
    have y0_0 := hx.1
    have y1_0 := hx.2
    have hlb := bestN_lt xs ws k
    have hst : Hid (bestN xs ws (k + 1) = if balI xs ws k < balI xs ws (bestN xs ws k) then k else bestN xs ws k) := rfl
    have HX0 := Lib.hid hx
    clear hx hb HB1 HX1 y0_1 y1_1
    generalize hbm : bestN xs ws k = m at *
    by_cases hlt : k < ws.length
    · have hbd := balI_bd q0 k
      have hbd2 := balI_bd q0 m
      have k1 := quiet_below (w := wr) (fun W hW => l10Balance_any s (.slice A xs.length c) xs _ ws k W ((HR.out.below HB0.out).below hW) ((HW.out.below HB0.out).below hW) q0 (by omega) (by omega))
      have k2 := quiet_below (w := wr) (fun W hW => l10Balance_any s (.slice A xs.length c) xs _ ws m W ((HR.out.below HB0.out).below hW) ((HW.out.below HB0.out).below hW) q0 (by omega) (by omega))
      rw [show ((k : Int)).toNat = k from rfl] at k1
      rw [show ((m : Int)).toNat = m from rfl] at k2
      clear hbm
      rcases q2 : decide (balI xs ws k < balI xs ws m) with _ | _
      · have hp := of_decide_eq_false q2
        go_wp2_with fail
        have y0_q := cell_regrown y0_0
        have y1_q := cell_regrown y1_0
        clear y0_0 y1_0
        refine wp_region_below (by kernel_rfl) (by kernel_rfl) ?_
        repeat (go_big_quiet_step (first | (with_reducible exact k1 _ _) | (with_reducible exact k2 _ _)))
        refine wpQuiet_nil ?_
        intro wq hbq0
        have hbq := Lib.hid hbq0
        clear hbq0
        clear y0_q y1_q
        go_wp2
        go_roundw
        case rel => exact ⟨k + 1, by omega, by go_num, by rw [hst.out, if_neg (by omega)], Below.then HB0.out hbq.out, HX0.out.below hbq.out⟩
        case measure => simp [intOf]; omega
      · have hp := of_decide_eq_true q2
        go_wp2_with fail
        have y0_q := cell_regrown y0_0
        have y1_q := cell_regrown y1_0
        clear y0_0 y1_0
        refine wp_region_below (by kernel_rfl) (by kernel_rfl) ?_
        repeat (go_big_quiet_step (first | (with_reducible exact k1 _ _) | (with_reducible exact k2 _ _)))
        refine wpQuiet_nil ?_
        intro wq hbq0
        have hbq := Lib.hid hbq0
        clear hbq0
        clear y0_q y1_q
        go_wp2
        go_roundw
        case rel => exact ⟨k + 1, by omega, by go_num, by rw [hst.out, if_pos hp], Below.then HB0.out hbq.out, HX0.out.below hbq.out⟩
        case measure => simp [intOf]; omega
    · obtain rfl : k = ws.length := by omega
      go_wp2
      go_ret
      exact ⟨ret_int (by rw [bestI, q0, hbm]; rfl), HB0.out⟩
end Go.Proofs.Ytoohpflomlhakaa
