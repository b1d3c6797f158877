/- FnLeagues: the contracts at a league that is in order. -/
import Derived.Test.YtdmneccfbfdloaaLgF
import Derived.Test.YtdmneccfbfdloaaAddR
namespace Go.Proofs.Ytdmneccfbfdloaa
open Go.RowKit Go.Sort
set_option maxRecDepth 100000
section
variable {n : Nat} {rs : List R4} {sl : Value} {w : World}
theorem in_club {n : Nat} {c : Nat} (hc : c < n) : inB (c : Int) 0 ((n : Int) - 1) = true := inB_true.2 ⟨by omega, by omega⟩
theorem cPts (hv : leagueB (n : Int) rs = true) (h : RdR w sl rs) : Calls Try.prog 21 #[.agg #[.int .i64 n, sl]] w fun e w' => ∃ A c, e = .returned (.slice A n c) ∧ Own w' w.heap.size (.slice A n c) (ptsLK rs n) ∧ Below w.heap.size w w' :=
  (implPoints n sl rs w h).mono fun e w' ⟨v, h1, h2, h3⟩ => by
    unfold ptsL at h2
    rw [if_pos hv, Int.toNat_natCast] at h2
    obtain ⟨A, c, rfl, -, -, -⟩ := h2.form
    rw [ptsLK_len] at h1 h2
    exact ⟨A, c, h1, h2, h3⟩
theorem cTab (hv : leagueB (n : Int) rs = true) (h : RdR w sl rs) : Calls Try.prog 22 #[.agg #[.int .i64 n, sl]] w fun e w' => ∃ A c, e = .returned (.slice A n c) ∧ Own w' w.heap.size (.slice A n c) (tabL n rs) ∧ Below w.heap.size w w' :=
  (implTable n sl rs w h).mono fun e w' ⟨v, h1, h2, h3⟩ => by
    obtain ⟨A, c, rfl, -, -, -⟩ := h2.form
    rw [show (tabL n rs).length = n by rw [tabL_eq hv, ordK_len]] at h1 h2
    exact ⟨A, c, h1, h2, h3⟩
theorem cOk (hv : leagueB (n : Int) rs = true) (h : RdR w sl rs) : Calls Try.prog 23 #[.agg #[.int .i64 n, sl]] w fun e w' => e = .returned (.bool true) ∧ Below w.heap.size w w' :=
  (implLeagueOk n sl rs w h).mono fun e w' ⟨h1, h3⟩ => by rw [hv] at h1; exact ⟨h1, h3⟩
theorem cRec (hv : leagueB (n : Int) rs = true) (h : RdR w sl rs) (c : Nat) (hc : c < n) : Calls Try.prog 24 #[.agg #[.int .i64 n, sl], .int .i64 c] w fun e w' => e = .returned (.tuple #[.int .i64 (recN rs c 2), .int .i64 (recN rs c 1), .int .i64 (recN rs c 0)]) ∧ Below w.heap.size w w' :=
  (implRecordOf n sl rs c w h).mono fun e w' ⟨h1, h3⟩ => by
    unfold rec1 rec2 rec3 at h1
    rw [recI_yes ⟨hv, in_club hc⟩, recI_yes ⟨hv, in_club hc⟩, recI_yes ⟨hv, in_club hc⟩] at h1
    exact ⟨h1, h3⟩
theorem cGoals (hv : leagueB (n : Int) rs = true) (h : RdR w sl rs) (c : Nat) (hc : c < n) : Calls Try.prog 25 #[.agg #[.int .i64 n, sl], .int .i64 c] w fun e w' => e = .returned (.tuple #[.int .i64 (madeN rs c), .int .i64 (agN rs c)]) ∧ Below w.heap.size w w' :=
  (implGoalsOf n sl rs c w h).mono fun e w' ⟨h1, h3⟩ => by
    unfold goals1 goals2 at h1
    rw [if_pos ⟨hv, in_club hc⟩, if_pos ⟨hv, in_club hc⟩] at h1
    exact ⟨h1, h3⟩
theorem cUnb (hv : leagueB (n : Int) rs = true) (h : RdR w sl rs) : Calls Try.prog 27 #[.agg #[.int .i64 n, sl]] w fun e w' => e = .returned (.int .i64 (setOf (fun c => recN rs c 0 == 0) n : Nat)) ∧ Below w.heap.size w w' :=
  (implUnb n sl rs w h).mono fun e w' ⟨h1, h3⟩ => by
    unfold unbI at h1
    rw [if_pos hv, Int.toNat_natCast, unbK_all] at h1
    exact ⟨h1, h3⟩
theorem cMet (hv : leagueB (n : Int) rs = true) (h : RdR w sl rs) (a b : Nat) (ha : a < n) (hb : b < n) (hab : a ≠ b) : Calls Try.prog 28 #[.agg #[.int .i64 n, sl], .int .i64 a, .int .i64 b] w fun e w' => e = .returned (.int .i64 (metN rs a b)) ∧ Below w.heap.size w w' :=
  (implMeetings n sl rs a b w h).mono fun e w' ⟨h1, h3⟩ => by
    rw [metI_yes ⟨hv, in_club ha, in_club hb, by omega⟩] at h1
    exact ⟨h1, h3⟩
theorem cAm (hv : leagueB (n : Int) rs = true) (h : RdR w sl rs) (S : Nat) (hS : S < 2 ^ n) : Calls Try.prog 30 #[.agg #[.int .i64 n, sl], .int .i64 S] w fun e w' => ∃ A q c, q ≤ rs.length ∧ (S = 2 ^ n - 1 → q = rs.length) ∧ e = .returned (.tuple #[.agg #[.int .i64 n, .slice A q c], .bool true]) ∧ Below w.heap.size w w' :=
  (implAmong n sl rs S w h).mono fun e w' ⟨v, h1, h2, h3⟩ => by
    have ok : amOk n rs S = true := by
      unfold amOk
      rw [hv, Int.toNat_natCast, Bool.true_and, inB_true]
      have : ((2 : Int) ^ n) = ((2 ^ n : Nat) : Int) := by simp
      rw [this]; omega
    obtain ⟨e1, e2⟩ := am_yes ok
    rw [Int.toNat_natCast] at e2
    rw [e1, ok] at h1
    rw [e2] at h2
    obtain ⟨A, c, rfl, -, -, -⟩ := h2.form
    exact ⟨A, _, c, am_le _ _, fun hs => by rw [hs, am_full (leagueB_true.1 hv).2.2], h1, h3⟩
theorem cAdd (hv : leagueB (n : Int) rs = true) (h : RdR w sl rs) (hm : rs.length ≤ 59) : Calls Try.prog 31 #[.agg #[.int .i64 n, sl], .agg #[.int .i64 0, .int .i64 1, .int .i64 2, .int .i64 1]] w fun e w' => ∃ A c, e = .returned (.tuple #[.agg #[.int .i64 n, .slice A (rs.length + 1) c], .bool true]) ∧ OwnR w' w.heap.size (.slice A (rs.length + 1) c) (rs ++ [(0, 1, 2, 1)]) ∧ leagueB (n : Int) (rs ++ [(0, 1, 2, 1)]) = true ∧ Below w.heap.size w w' :=
  (implAdd n sl rs 0 1 2 1 w h).mono fun e w' ⟨v, h1, h2, h3⟩ => by
    have hv' := leagueB_true.1 hv
    have ok2 : leagueB (n : Int) (rs ++ [(0, 1, 2, 1)]) = true := leagueB_true.2 ⟨hv'.1, by simp; omega, fun r hr => by
      rw [List.mem_append, List.mem_singleton] at hr
      rcases hr with hr | rfl
      · exact hv'.2.2 r hr
      · exact new_res (by omega)⟩
    have ok : adOk n rs (0, 1, 2, 1) = true := by unfold adOk; rw [hv, ok2]; rfl
    obtain ⟨e1, e2⟩ := ad_yes ok
    rw [e1, ok] at h1
    rw [e2] at h2
    obtain ⟨A, c, rfl, -, -, -⟩ := h2.form
    rw [List.length_append, List.length_singleton] at h1 h2
    exact ⟨A, c, h1, h2, ok2, h3⟩
end
end Go.Proofs.Ytdmneccfbfdloaa
