/- FnExactAwayGoalWinner: the program's walk. -/
import Derived.Test.YtmcajbhillekjaaAway
import Derived.Test.YtmcajbhillekjaaCmp
import Derived.Test.YtmcajbhillekjaaApp
namespace Go.Proofs.Ytmcajbhillekjaa
open Go.RowKit

theorem all4 (c d g h : Int) : allB [c, d, g, h] 0 99 = (goalsB c d && goalsB g h) := by
  simp [allB, goalsB, Bool.and_assoc]

theorem or2 (x y : Int) : orI [x, y] = if x = 0 then y else x := by
  unfold orI
  by_cases hx : x = 0 <;> by_cases hy : y = 0 <;> simp [hx, hy]
theorem away_one {a b c d g h : Int} (h1 : (orI [cmpI (c + h) (d + g), cmpI h d] == 1) = true) : (if d + g < c + h then a else if c + h < d + g then b else if d < h then a else if h < d then b else -1) = a := by
  rw [or2] at h1
  simp only [cmpI, beq_iff_eq] at h1
  repeat' split
  all_goals first | rfl | (exfalso; repeat' (split at h1); all_goals omega)
theorem away_minus {a b c d g h : Int} (h1 : (orI [cmpI (c + h) (d + g), cmpI h d] == -1) = true) : (if d + g < c + h then a else if c + h < d + g then b else if d < h then a else if h < d then b else -1) = b := by
  rw [or2] at h1
  simp only [cmpI, beq_iff_eq] at h1
  repeat' split
  all_goals first | rfl | (exfalso; repeat' (split at h1); all_goals omega)
theorem away_zero {a b c d g h : Int} (h1 : (orI [cmpI (c + h) (d + g), cmpI h d] == 1) = false) (h2 : (orI [cmpI (c + h) (d + g), cmpI h d] == -1) = false) : (if d + g < c + h then a else if c + h < d + g then b else if d < h then a else if h < d then b else -1) = -1 := by
  rw [or2] at h1 h2
  simp only [cmpI, beq_eq_false_iff_ne] at h1 h2
  repeat' split
  all_goals first | rfl | (exfalso; repeat' (split at h1); all_goals first | omega | (repeat' (split at h2); all_goals omega))
set_option maxHeartbeats 400000 in
theorem implAway (a b c d e f g h : Int) (w : World) :
    Calls Try.prog 23 #[.agg #[.int .i64 a, .int .i64 b, .int .i64 c, .int .i64 d], .agg #[.int .i64 e, .int .i64 f, .int .i64 g, .int .i64 h]] w
      fun e' w' => e' = .returned (.int .i64 (awayI a b c d e f g h)) ∧ Below w.heap.size w w' := by
  have hlit := (Own.lit ((w.alloc (.cells #[.int .i64 a, .int .i64 b, .int .i64 c, .int .i64 d] 31)).alloc (.cells #[.int .i64 e, .int .i64 f, .int .i64 g, .int .i64 h] 31)) 0 [c, d, g, h] (Nat.zero_le _) (by simp)).rd
  simp only [List.map_cons, List.map_nil, World.size_alloc, List.length_cons, List.length_nil] at hlit
  have HL := Lib.hid hlit
  clear hlit
  by_cases hok : awayOk a b c d e f g h
  · obtain ⟨h1, h2, h3, h4, h5⟩ := hok
    have HY := Lib.hid (away_yes (a := a) (b := b) (c := c) (d := d) (e := e) (f := f) (g := g) (h := h) ⟨h1, h2, h3, h4, h5⟩)
    have q1 : (a != f) = false := by simpa using h1
    have q2 : (b != e) = false := by simpa using h2
    have q3 : (a == b) = false := by simpa using h3
    have q4 : allB [c, d, g, h] 0 99 = true := by rw [all4, h4, h5]; rfl
    have bd1 := goals_bd h4
    have bd2 := goals_bd h5
    clear h1 h2 h3 h4 h5
    go_enter Try.func23, Try.ntmps23
    go_wp2_with fail
    refine (allWithin_any _ [c, d, g, h] _ _ _ HL.out).mono ?_
    rintro e1 w1 ⟨rfl, hb1⟩
    obtain ⟨hc1, -⟩ := bcell hb1
    have HB1 := Lib.hid hb1
    have hs1 := hb1.size
    simp at hs1
    have F0 : ∀ o, w1.cell? ⟨w.heap.size, o, none⟩ = _ := fun o => (hc1 _ _ (by simp; omega))
    have F1 : ∀ o, w1.cell? ⟨w.heap.size + 1, o, none⟩ = _ := fun o => (hc1 _ _ (by simp))
    clear hb1 hc1
    go_wp2
    go_still_tail 16, (by kernel_rfl)
    still_call ((compare_any _ _ _).mono fun e w' h => ⟨h.1, h.2.symm⟩)
    repeat still_step
    still_call ((compare_any _ _ _).mono fun e w' h => ⟨h.1, h.2.symm⟩)
    repeat still_step
    refine wpStill_nil ?_
    have hd : Rd ((w1.drew).alloc (.cells #[.int .i64 (cmpI (c + h) (d + g)), .int .i64 (cmpI h d)] 3)) (.slice (some ⟨w1.drew.heap.size, 0, none⟩) 2 2) [cmpI (c + h) (d + g), cmpI h d] := (Own.lit w1.drew 0 [cmpI (c + h) (d + g), cmpI h d] (Nat.zero_le _) (by simp)).rd
    have HD := Lib.hid hd
    have b2 : Below w1.heap.size w1 ((w1.drew).alloc (.cells #[.int .i64 (cmpI (c + h) (d + g)), .int .i64 (cmpI h d)] 3)) := (Below.refl w1.heap.size w1).drew.alloc (Nat.le_refl _) _
    have HB2 := Lib.hid b2
    clear hd b2
    change wpList _ _ _ _ _ w1.drew
    go_wp2_with fail
    refine (cmpOr_any _ [cmpI (c + h) (d + g), cmpI h d] _ HD.out).mono ?_
    rintro e1 w2 ⟨rfl, hw⟩
    have hb2 : Below w1.heap.size w1 w2 := by rw [← hw]; exact HB2.out
    obtain ⟨hc2, -⟩ := bcell hb2
    have HB := Lib.hid (Below.then (Below.then ((((Below.refl _ _).alloc (Nat.le_refl _) _).alloc (by simp) _).alloc (by simp; omega) _) HB1.out) hb2)
    have G0 : ∀ o, w2.cell? ⟨w.heap.size, o, none⟩ = _ := fun o => (hc2 _ _ (by omega)).trans (F0 o)
    clear HB2 HD hw hb2 hc2 F0 F1 HB1
    go_wp2
    · have h1 : (orI [cmpI (c + h) (d + g), cmpI h d] == 1) = true := by assumption
      go_ret
      exact ⟨ret_int (by rw [HY.out]; exact (away_one h1).symm), HB.out⟩
    · have h1 : (orI [cmpI (c + h) (d + g), cmpI h d] == -1) = true := by assumption
      go_ret
      exact ⟨ret_int (by rw [HY.out]; exact (away_minus h1).symm), HB.out⟩
    · have h1 : (orI [cmpI (c + h) (d + g), cmpI h d] == 1) = false := by assumption
      have h2 : (orI [cmpI (c + h) (d + g), cmpI h d] == -1) = false := by assumption
      go_ret
      exact ⟨ret_int (by rw [HY.out]; exact (away_zero h1 h2).symm), HB.out⟩
  · have HN := Lib.hid (away_no hok)
    have HK := Lib.hid hok
    clear hok
    rcases q1 : (a != f) with _ | _
    · rcases q2 : (b != e) with _ | _
      · rcases q3 : (a == b) with _ | _
        · rcases h4 : allB [c, d, g, h] 0 99 with _ | _
          · go_enter Try.func23, Try.ntmps23
            go_wp2_with fail
            refine (allWithin_any _ [c, d, g, h] _ _ _ HL.out).mono ?_
            rintro e1 w1 ⟨rfl, hb1⟩
            have HB1 := Lib.hid hb1
            clear hb1
            go_wp2
            go_ret
            exact ⟨ret_int HN.out.symm, Below.then ((((Below.refl _ _).alloc (Nat.le_refl _) _).alloc (by simp) _).alloc (by simp; omega) _) HB1.out⟩
          · rw [all4, Bool.and_eq_true] at h4
            exact absurd ⟨by simpa using q1, by simpa using q2, by simpa using q3, h4.1, h4.2⟩ HK.out
        · go_enter Try.func23, Try.ntmps23
          go_wp2
          go_ret
          exact ⟨ret_int HN.out.symm, ((Below.refl _ _).alloc (Nat.le_refl _) _).alloc (by simp) _⟩
      · go_enter Try.func23, Try.ntmps23
        go_wp2
        go_ret
        exact ⟨ret_int HN.out.symm, ((Below.refl _ _).alloc (Nat.le_refl _) _).alloc (by simp) _⟩
    · go_enter Try.func23, Try.ntmps23
      go_wp2
      go_ret
      exact ⟨ret_int HN.out.symm, ((Below.refl _ _).alloc (Nat.le_refl _) _).alloc (by simp) _⟩
end Go.Proofs.Ytmcajbhillekjaa
