/- FnExactAwayGoalWinner: the walks. -/
import Derived.Test.YtmcajbhillekjaaRes
import Derived.Test.YtmcajbhillekjaaAllW
namespace Go.Proofs.Ytmcajbhillekjaa
open Go.RowKit

def awayOk (a b c d e f g h : Int) : Prop := a = f ∧ b = e ∧ a ≠ b ∧ goalsB c d = true ∧ goalsB g h = true
instance (a b c d e f g h : Int) : Decidable (awayOk a b c d e f g h) := by unfold awayOk; infer_instance
def awayI (a b c d e f g h : Int) : Int :=
  if awayOk a b c d e f g h then (if d + g < c + h then a else if c + h < d + g then b else if d < h then a else if h < d then b else -1) else -1
theorem away_no {a b c d e f g h : Int} (hh : ¬ awayOk a b c d e f g h) : awayI a b c d e f g h = -1 := by unfold awayI; rw [if_neg hh]
theorem away_yes {a b c d e f g h : Int} (hh : awayOk a b c d e f g h) : awayI a b c d e f g h = (if d + g < c + h then a else if c + h < d + g then b else if d < h then a else if h < d then b else -1) := by unfold awayI; rw [if_pos hh]
theorem goals_bd {c d : Int} (h : goalsB c d = true) : 0 ≤ c ∧ c ≤ 99 ∧ 0 ≤ d ∧ d ≤ 99 := by
  simp only [goalsB, Bool.and_eq_true, inB_true] at h; omega

set_option maxHeartbeats 1000000 in
theorem specAway (a b c d e f g h : Int) (w : World) :
    Calls Try.prog 21 #[.agg #[.int .i64 a, .int .i64 b, .int .i64 c, .int .i64 d], .agg #[.int .i64 e, .int .i64 f, .int .i64 g, .int .i64 h]] w
      fun e' w' => e' = .returned (.int .i64 (awayI a b c d e f g h)) ∧ Below w.heap.size w w' := by
  by_cases hok : awayOk a b c d e f g h
  · obtain ⟨h1, h2, h3, h4, h5⟩ := hok
    have HY := Lib.hid (away_yes (a := a) (b := b) (c := c) (d := d) (e := e) (f := f) (g := g) (h := h) ⟨h1, h2, h3, h4, h5⟩)
    have q1 : (a != f) = false := by simpa using h1
    have q2 : (b != e) = false := by simpa using h2
    have q3 : (a == b) = false := by simpa using h3
    have bd1 := goals_bd h4
    have bd2 := goals_bd h5
    clear h1 h2 h3
    go_enter Try.func21, Try.ntmps21
    go_wp2_with fail
    refine (l13Goals_any _ _ _ _ _).mono ?_
    rintro e1 w1 ⟨rfl, hb1⟩
    obtain ⟨hc1, -⟩ := bcell hb1
    have HB1 := Lib.hid hb1
    have hs1 := hb1.size
    simp at hs1
    clear hb1
    go_wp2_with fail
    refine (l13Goals_any _ _ _ _ _).mono ?_
    rintro e1 w2 ⟨rfl, hb2⟩
    obtain ⟨hc2, -⟩ := bcell hb2
    have HB2 := Lib.hid hb2
    have hs2 := hb2.size
    have F0 : ∀ o, w2.cell? ⟨w.heap.size, o, none⟩ = _ := fun o => (hc2 _ _ (by omega)).trans (hc1 _ _ (by simp; omega))
    have F1 : ∀ o, w2.cell? ⟨w.heap.size + 1, o, none⟩ = _ := fun o => (hc2 _ _ (by omega)).trans (hc1 _ _ (by simp))
    have HB := Lib.hid (Below.then (Below.then (((Below.refl _ _).alloc (Nat.le_refl _) _).alloc (by simp) _) HB1.out) HB2.out)
    clear hb2 hc1 hc2 HB1 HB2
    go_wp2
    all_goals
      go_ret
      refine ⟨ret_int ?_, HB.out⟩
      rw [HY.out]
      (repeat' split) <;> first | rfl | omega
  · have HN := Lib.hid (away_no hok)
    have HK := Lib.hid hok
    clear hok
    rcases q1 : (a != f) with _ | _
    · rcases q2 : (b != e) with _ | _
      · rcases q3 : (a == b) with _ | _
        · rcases h4 : goalsB c d with _ | _
          · go_enter Try.func21, Try.ntmps21
            go_wp2_with fail
            refine (l13Goals_any _ _ _ _ _).mono ?_
            rintro e1 w1 ⟨rfl, hb1⟩
            have HB1 := Lib.hid hb1
            clear hb1
            go_wp2
            go_ret
            exact ⟨ret_int HN.out.symm, Below.then (((Below.refl _ _).alloc (Nat.le_refl _) _).alloc (by simp) _) HB1.out⟩
          · rcases h5 : goalsB g h with _ | _
            · go_enter Try.func21, Try.ntmps21
              go_wp2_with fail
              refine (l13Goals_any _ _ _ _ _).mono ?_
              rintro e1 w1 ⟨rfl, hb1⟩
              obtain ⟨hc1, -⟩ := bcell hb1
              have HB1 := Lib.hid hb1
              have hs1 := hb1.size
              simp at hs1
              have F1 : ∀ o, w1.cell? ⟨w.heap.size + 1, o, none⟩ = _ := fun o => (hc1 _ _ (by simp))
              clear hb1 hc1
              go_wp2_with fail
              refine (l13Goals_any _ _ _ _ _).mono ?_
              rintro e1 w2 ⟨rfl, hb2⟩
              have HB2 := Lib.hid hb2
              clear hb2
              go_wp2
              go_ret
              exact ⟨ret_int HN.out.symm, Below.then (Below.then (((Below.refl _ _).alloc (Nat.le_refl _) _).alloc (by simp) _) HB1.out) HB2.out⟩
            · exact absurd ⟨by simpa using q1, by simpa using q2, by simpa using q3, h4, h5⟩ HK.out
        · go_enter Try.func21, Try.ntmps21
          go_wp2
          go_ret
          exact ⟨ret_int HN.out.symm, ((Below.refl _ _).alloc (Nat.le_refl _) _).alloc (by simp) _⟩
      · go_enter Try.func21, Try.ntmps21
        go_wp2
        go_ret
        exact ⟨ret_int HN.out.symm, ((Below.refl _ _).alloc (Nat.le_refl _) _).alloc (by simp) _⟩
    · go_enter Try.func21, Try.ntmps21
      go_wp2
      go_ret
      exact ⟨ret_int HN.out.symm, ((Below.refl _ _).alloc (Nat.le_refl _) _).alloc (by simp) _⟩
end Go.Proofs.Ytmcajbhillekjaa
