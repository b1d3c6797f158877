/- FnExactIsRotational: the functions. -/
import Derived.Test.YtoblhnfnjagajaaRen2
import Derived.Test.YtoblhnfnjagajaaPerm
import Derived.Test.YtoblhnfnjagajaaTourOkS
import Derived.Test.YtoblhnfnjagajaaTourLw
namespace Go.Proofs.Ytoblhnfnjagajaa
open Go.RowKit Go.Sort
set_option maxRecDepth 100000

def turnL (n k : Nat) : List Int := (List.range k).map fun (a : Nat) => ((a : Int) + 1) % n
theorem turnL_succ (n k : Nat) : turnL n (k + 1) = turnL n k ++ [((k : Int) + 1) % n] := by unfold turnL; rw [List.range_succ, List.map_append]; rfl
theorem turnL_len (n k : Nat) : (turnL n k).length = k := by simp [turnL]
theorem turnL_perm {n : Nat} (h1 : 1 ≤ n) (h8 : n ≤ 8) : PermP n (turnL n n) := by
  rcases (by omega : n = 1 ∨ n = 2 ∨ n = 3 ∨ n = 4 ∨ n = 5 ∨ n = 6 ∨ n = 7 ∨ n = 8) with rfl | rfl | rfl | rfl | rfl | rfl | rfl | rfl
  all_goals exact ⟨by decide, by decide, by decide⟩
noncomputable def rotlB (s : Int) (xs : List Int) : Bool := tourB s xs && decide (xs = rnL xs (turnL xs.length xs.length))
set_option maxHeartbeats 2000000 in
theorem implRotal (s : Int) (sl : Value) (xs : List Int) (w : World) (h : Rd w sl xs) :
    Calls Try.prog 57 #[.agg #[.int .i64 s, sl]] w fun e w' => e = .returned (.bool (rotlB s xs)) ∧ Below w.heap.size w w' := by
  have HR := Lib.hid h
  obtain ⟨A, c, rfl, -, hcm, -⟩ := h
  unfold maxLen at hcm
  rcases q0 : tourB s xs with _ | _
  case false =>
    go_enter Try.func57, Try.ntmps57
    go_wp2_with fail
    have b0 := below_alloc1 w (.cells #[.int .i64 s, .slice A xs.length c] 65)
    have x0 := TBox.new w s (.slice A xs.length c) 65
    generalize w.alloc (.cells #[.int .i64 s, .slice A xs.length c] 65) = w0 at *
    have HX0 := Lib.hid x0
    have HB0 := Lib.hid b0
    clear x0 b0
    have y0_0 := HX0.out.1
    have y1_0 := HX0.out.2
    go_wp2_with fail
    refine (implTourOk s _ xs _ (HR.out.below HB0.out)).mono ?_
    rintro e w1 ⟨rfl, hb⟩
    have HX1 := Lib.hid (HX0.out.below hb)
    have HB1 := Lib.hid (Below.then HB0.out hb)
    clear hb HX0 HB0 y0_0 y1_0
    have y0_1 := HX1.out.1
    have y1_1 := HX1.out.2
    rw [q0]
    go_wp2
    go_ret
    exact ⟨ret_bool (by simp [rotlB, *]), HB1.out⟩
  have hp := tourB_true.1 q0
  have hs := hp.1
  have hl := hp.2.1
  go_enter Try.func57, Try.ntmps57
  go_wp2_with fail
  have b0 := below_alloc1 w (.cells #[.int .i64 s, .slice A xs.length c] 65)
  have x0 := TBox.new w s (.slice A xs.length c) 65
  generalize w.alloc (.cells #[.int .i64 s, .slice A xs.length c] 65) = w0 at *
  have HX0 := Lib.hid x0
  have HB0 := Lib.hid b0
  clear x0 b0
  have y0_0 := HX0.out.1
  have y1_0 := HX0.out.2
  go_wp2_with fail
  refine (implTourOk s _ xs _ (HR.out.below HB0.out)).mono ?_
  rintro e w1 ⟨rfl, hb⟩
  have HX1 := Lib.hid (HX0.out.below hb)
  have HB1 := Lib.hid (Below.then HB0.out hb)
  clear hb HX0 HB0 y0_0 y1_0
  have y0_1 := HX1.out.1
  have y1_1 := HX1.out.2
  rw [q0]
  obtain ⟨n, rfl⟩ : ∃ n : Nat, s = n := ⟨s.toNat, by omega⟩
  have hn1 : 1 ≤ n := by omega
  have hn8 : n ≤ 8 := by omega
  have hln : xs.length = n := by omega
  have HF : Hid (rotlB (n : Int) xs = decide (xs = rnL xs (turnL n n))) := by unfold Hid; rw [rotlB, q0, hln]; rfl
  have HPM := Lib.hid (turnL_perm hn1 hn8)
  have HP := Lib.hid hp
  have HLN := Lib.hid hln
  clear hp hl hln q0
  go_wp2
  go_loopw [3, 10] (fun v i wr => ∃ (a : Nat), a ≤ n ∧ i = .int .i64 a ∧ Own wr w1.heap.size v (turnL n a) ∧ Below w1.heap.size w1 wr) (fun _ i _ => n - (intOf i).toNat)
  case atStart => exact ⟨0, by omega, rfl, by simpa [turnL] using Own.nil_ _ _, Below.refl _ _⟩
  case round =>
    obtain ⟨a, ha, rfl, hown, hb⟩ := hrel
    have HO := Lib.hid hown
    have HB := Lib.hid hb
    have HX := Lib.hid (HX1.out.below hb)
    clear hown hb y0_1 y1_1
    have y0 := HX.out.1
    have y1 := HX.out.2
    by_cases hlt : a < n
    · have hr : Int.tmod ((a : Int) + 1) n = ((a : Int) + 1) % n := Int.tmod_eq_emod_of_nonneg (by omega)
      have HMS := Lib.hid (turnL_succ n a)
      have hlen := turnL_len n a
      have ho := HO.out
      have hsz := HB.out.size
      generalize ((a : Int) + 1) % n = r at *
      generalize turnL n a = X at *
      go_wp2_with (at_builtin; refine wp_append1 _ rfl (.tmp 13) (.tmp 19) rfl w1.heap.size _ _ _ rfl ho (by simp [Act.eval]) (by omega) (by exact hsz) ?_; intro v' w7 hown1 hg1; have HO7 := Lib.hid hown1; have HB7 := Lib.hid (below_append HB.out hg1 ho (Nat.le_refl _) hsz); clear hown1 hg1)
      go_roundw
      case rel => exact ⟨a + 1, by omega, by go_num, by rw [HMS.out]; exact HO7.out, HB7.out⟩
      case measure => simp [intOf]; omega
    · obtain rfl : n = a := by omega
      obtain ⟨NA, nc, rfl, -, -, -⟩ := HO.out.form
      rw [turnL_len] at HO
      rw [turnL_len]
      have BD : Hid (Below w.heap.size w wr.drew) := (let q := Below.then HB1.out HB.out; ⟨q.os, q.tape, q.output, q.size, q.block⟩)
      have XD := Lib.hid (show TBox wr.drew w.heap.size n (.slice A xs.length c) from HX.out)
      have OD := Lib.hid (show Own wr.drew w1.heap.size (.slice NA n nc) (turnL n n) from HO.out)
      go_wp2_with fail
      go_region_held3 (fun W => W.cell? ⟨w.heap.size, 0, none⟩ = some (.int .i64 n) ∧ W.cell? ⟨w.heap.size, 1, none⟩ = some (.slice A xs.length c))
        (first | exact ⟨y0, y1⟩ | exact ⟨y0_2, y1_2⟩ | exact ⟨y0_3, y1_3⟩)
        (first
          | (go_at_call 109; refine (renamed_any n (.slice A xs.length c) xs (turnL n n) (.slice NA n nc) _ (HR.out.below BD.out) HP.out OD.out.rd (by rw [HLN.out]; exact HPM.out)).mono ?_; rintro e w2 ⟨v2, rfl, ho2, hF2, hb2⟩; obtain ⟨Y, cy, rfl, hym, -, -⟩ := ho2.form; have HX2 := Lib.hid (XD.out.below hb2); have y0_2 := HX2.out.1; have y1_2 := HX2.out.2; have HB2 := Lib.hid (Below.then BD.out hb2); have HO2 := Lib.hid ho2; clear ho2 hF2 hb2)
          | (go_at_call 108; refine (same_any n (.slice A xs.length c) _ xs (rnL xs (turnL n n)) _ (HR.out.below HB2.out) HO2.out.rd).mono ?_; rintro e w3 ⟨rfl, hb3⟩; have HB3 := Lib.hid (Below.then HB2.out hb3); have HX3 := Lib.hid (HX2.out.below hb3); have y0_3 := HX3.out.1; have y1_3 := HX3.out.2; clear hb3))
      all_goals
        go_wp2
        go_ret
        exact ⟨ret_bool HF.out.symm, HB3.out⟩
set_option maxHeartbeats 1000000 in
theorem l11Turn_any (n : Nat) (h1 : 1 ≤ n) (h8 : n ≤ 8) (w : World) :
    Calls Try.prog 107 #[.int .i64 n] w fun e w' => ∃ v', e = .returned v' ∧ Own w' w.heap.size v' (turnL n n) ∧ Below w.heap.size w w' := by
  have HL0 := Lib.hid (Own.lit w w.heap.size [] (Nat.le_refl _) (by simp))
  go_enter Try.func107, Try.ntmps107
  go_wp2
  go_loopw [3, 4] (fun v i wr => ∃ (a : Nat), a ≤ n ∧ i = .int .i64 a ∧ Own wr w.heap.size v (turnL n a) ∧ Below w.heap.size w wr) (fun _ i _ => n - (intOf i).toNat)
  case atStart => exact ⟨0, by omega, rfl, by simpa [turnL] using HL0.out, below_alloc1 _ _⟩
  case round =>
    obtain ⟨a, ha, rfl, hown, hb⟩ := hrel
    have HO := Lib.hid hown
    have HB := Lib.hid hb
    clear hown hb
    by_cases hlt : a < n
    · have hr : Int.tmod ((a : Int) + 1) n = ((a : Int) + 1) % n := Int.tmod_eq_emod_of_nonneg (by omega)
      have HMS := Lib.hid (turnL_succ n a)
      have hlen := turnL_len n a
      have ho := HO.out
      have hsz := HB.out.size
      generalize ((a : Int) + 1) % n = r at *
      generalize turnL n a = X at *
      go_wp2_with (at_builtin; refine wp_append1 _ rfl (.tmp 11) (.tmp 16) rfl w.heap.size _ _ _ rfl ho (by simp [Act.eval]) (by omega) (by exact hsz) ?_; intro v' w7 hown1 hg1; have HO7 := Lib.hid hown1; have HB7 := Lib.hid (below_append HB.out hg1 ho (Nat.le_refl _) hsz); clear hown1 hg1)
      go_roundw
      case rel => exact ⟨a + 1, by omega, by go_num, by rw [HMS.out]; exact HO7.out, HB7.out⟩
      case measure => simp [intOf]; omega
    · obtain rfl : n = a := by omega
      go_wp2
      go_ret
      exact ⟨_, rfl, HO.out, HB.out⟩
set_option maxHeartbeats 2000000 in
theorem specRotal (s : Int) (sl : Value) (xs : List Int) (w : World) (h : Rd w sl xs) :
    Calls Try.prog 56 #[.agg #[.int .i64 s, sl]] w fun e w' => e = .returned (.bool (rotlB s xs)) ∧ Below w.heap.size w w' := by
  have HR := Lib.hid h
  obtain ⟨A, c, rfl, -, hcm, -⟩ := h
  unfold maxLen at hcm
  rcases q0 : tourB s xs with _ | _
  · go_enter Try.func56, Try.ntmps56
    go_wp2_with fail
    have b0 := below_alloc1 w (.cells #[.int .i64 s, .slice A xs.length c] 65)
    have x0 := TBox.new w s (.slice A xs.length c) 65
    generalize w.alloc (.cells #[.int .i64 s, .slice A xs.length c] 65) = w0 at *
    have HX0 := Lib.hid x0
    have HB0 := Lib.hid b0
    clear x0 b0
    have y0_0 := HX0.out.1
    have y1_0 := HX0.out.2
    have k1 := quiet_below (w := w0) (fun W hW => specTourOk s (.slice A xs.length c) xs W (HR.out.below (Below.then HB0.out hW)))
    rw [q0] at k1
    have y0_q := cell_regrown y0_0
    have y1_q := cell_regrown y1_0
    clear y0_0 y1_0
    refine wp_region_below (by kernel_rfl) (by kernel_rfl) ?_
    repeat (go_big_quiet_step (first | (with_reducible exact k1 _ _)))
    refine wpQuiet_nil ?_
    intro wq hbq0
    have hbq := Lib.hid hbq0
    clear hbq0
    clear y0_q y1_q
    go_wp2
    go_ret
    exact ⟨ret_bool (by rw [rotlB, q0]; rfl), Below.then HB0.out hbq.out⟩
  · have hp := tourB_true.1 q0
    have hs := hp.1
    have hl := hp.2.1
    obtain ⟨n, rfl⟩ : ∃ n : Nat, s = n := ⟨s.toNat, by omega⟩
    have hn1 : 1 ≤ n := by omega
    have hn8 : n ≤ 8 := by omega
    have hln : xs.length = n := by omega
    have HF : Hid (rotlB (n : Int) xs = decide (rnL xs (turnL n n) = xs)) := by unfold Hid; rw [rotlB, q0, hln]; exact decide_eq_decide.2 ⟨Eq.symm, Eq.symm⟩
    have HPM := Lib.hid (turnL_perm hn1 hn8)
    have HP := Lib.hid hp
    have HLN := Lib.hid hln
    clear hp hl hln
    have x0 := TBox.new w n (.slice A xs.length c) 65
    have b0 := below_alloc1 w (.cells #[.int .i64 n, .slice A xs.length c] 65)
    have BD : Hid (Below w.heap.size w (w.alloc (.cells #[.int .i64 n, .slice A xs.length c] 65)).drew) := ⟨b0.os, b0.tape, b0.output, b0.size, b0.block⟩
    have XD := Lib.hid (show TBox (w.alloc (.cells #[.int .i64 n, .slice A xs.length c] 65)).drew w.heap.size n (.slice A xs.length c) from x0)
    have y0 := x0.1
    have y1 := x0.2
    clear x0 b0
    have hfld : ∀ (Y : Option Addr) (q cy : Nat) (W : World), (Instr.field 65 (.agg #[.int .i64 n, .slice Y q cy]) 1).run Try.prog W = .ok (.slice Y q cy) W := fun _ _ _ _ => by kernel_rfl
    go_enter Try.func56, Try.ntmps56
    go_wp2_with fail
    go_region_held3 (fun W => W.cell? ⟨w.heap.size, 0, none⟩ = some (.int .i64 n) ∧ W.cell? ⟨w.heap.size, 1, none⟩ = some (.slice A xs.length c))
      (first | exact ⟨y0, y1⟩ | exact ⟨y0_2, y1_2⟩ | exact ⟨y0_3, y1_3⟩ | exact ⟨y0_4, y1_4⟩ | exact ⟨y0_5, y1_5⟩)
      (first
        | (go_at_call 104; refine (specTourOk n (.slice A xs.length c) xs _ (HR.out.below BD.out)).mono ?_; rintro e w2 ⟨rfl, hb2⟩; rw [q0]; have HX2 := Lib.hid (XD.out.below hb2); have y0_2 := HX2.out.1; have y1_2 := HX2.out.2; have HB2 := Lib.hid (Below.then BD.out hb2); clear hb2)
        | (go_at_call 107; refine (l11Turn_any n hn1 hn8 w2).mono ?_; rintro e w3 ⟨v3, rfl, ho3, hb3⟩; obtain ⟨NA, nc, rfl, -, -, -⟩ := ho3.form; have HX3 := Lib.hid (HX2.out.below hb3); have y0_3 := HX3.out.1; have y1_3 := HX3.out.2; have HB3 := Lib.hid (Below.then HB2.out hb3); have HO3 := Lib.hid ho3; clear ho3 hb3)
        | (go_at_call 106; refine (l02Rename_any n (.slice A xs.length c) xs (turnL n n) _ w3 (HR.out.below HB3.out) HP.out HO3.out.rd (by rw [HLN.out]; exact HPM.out)).mono ?_; rintro e w4 ⟨v4, rfl, ho4, hF4, hb4⟩; obtain ⟨Y, cy, rfl, hym, -, -⟩ := ho4.form; have HX4 := Lib.hid (HX3.out.below hb4); have y0_4 := HX4.out.1; have y1_4 := HX4.out.2; have HB4 := Lib.hid (Below.then HB3.out hb4); have HO4 := Lib.hid ho4; clear ho4 hF4 hb4)
        | (go_at_call 105; refine (of_same (l04Same_any _ (.slice A xs.length c) (rnL xs (turnL n n)) xs w4 HO4.out.rd (HR.out.below HB4.out))).mono ?_; rintro e w5 ⟨rfl, hb5⟩; have HX5 := Lib.hid (HX4.out.below hb5); have y0_5 := HX5.out.1; have y1_5 := HX5.out.2; have HB5 := Lib.hid (Below.then HB4.out hb5); clear hb5))
    all_goals
      go_wp2
      go_ret
      exact ⟨ret_bool HF.out.symm, HB5.out⟩
end Go.Proofs.Ytoblhnfnjagajaa
