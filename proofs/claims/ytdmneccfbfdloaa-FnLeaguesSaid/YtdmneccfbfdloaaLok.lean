/- LeagueOk, the program's and the reference's. -/
import Derived.Test.YtdmneccfbfdloaaLg
import Derived.Test.YtdmneccfbfdloaaSl
import Derived.Test.YtdmneccfbfdloaaHofR
namespace Go.Proofs.Ytdmneccfbfdloaa
open Go.RowKit Go.Sort

/-- what is asked of a result in a league of s clubs -/
def resB (s : Int) (r : R4) : Bool := inB r.1 0 (s - 1) && (inB r.2.1 0 (s - 1) && (!(r.1 == r.2.1) && (inB r.2.2.1 0 99 && inB r.2.2.2 0 99)))
def leagueB (s : Int) (rs : List R4) : Bool := inB s 2 8 && (decide (rs.length ≤ 60) && rs.all (resB s))
theorem leagueB_true {s : Int} {rs : List R4} : leagueB s rs = true ↔ (2 ≤ s ∧ s ≤ 8) ∧ rs.length ≤ 60 ∧ ∀ r ∈ rs, resB s r = true := by
  simp [leagueB, inB_true]
theorem resB_true {s : Int} {r : R4} : resB s r = true ↔ (0 ≤ r.1 ∧ r.1 ≤ s - 1) ∧ (0 ≤ r.2.1 ∧ r.2.1 ≤ s - 1) ∧ r.1 ≠ r.2.1 ∧ (0 ≤ r.2.2.1 ∧ r.2.2.1 ≤ 99) ∧ (0 ≤ r.2.2.2 ∧ r.2.2.2 ≤ 99) := by
  simp [resB, inB_true]

set_option maxHeartbeats 400000 in
theorem lhas_any (s : Int) (sl : Value) (a : Int) (w : World) (hs : -1000 ≤ s ∧ s ≤ 1000) :
    Calls Try.prog 51 #[.agg #[.int .i64 s, sl], .int .i64 a] w fun e w' => e = .returned (.bool (inB a 0 (s - 1))) ∧ Below w.heap.size w w' := by
  go_enter Try.func51, Try.ntmps51
  go_wp2_with (go_at_call 39; refine (within_any _ _ _ _).mono ?_; rintro e w1 ⟨rfl, rfl⟩)
  go_ret
  exact ⟨rfl, below_alloc1 _ _⟩
set_option maxHeartbeats 1000000 in
theorem leagueOk1_any (s : Int) (sl : Value) (r : R4) (g : Nat) (w : World) (hs : -1000 ≤ s ∧ s ≤ 1000) (hx : TBox w g s sl) :
    Calls Try.prog 50 #[.agg #[.int .i64 r.1, .int .i64 r.2.1, .int .i64 r.2.2.1, .int .i64 r.2.2.2], .pointer (some ⟨g, 0, none⟩)] w fun e w' => e = .returned (.bool (!resB s r)) ∧ Below w.heap.size w w' := by
  obtain ⟨a, b, c, d⟩ := r
  have b0 := below_alloc1 w (.cells #[.int .i64 a, .int .i64 b, .int .i64 c, .int .i64 d] 52)
  have x0 := Box4.new w a b c d 52
  have t0 := hx.below b0
  have B0 := Lib.hid b0
  have X0 := Lib.hid x0
  have T0 := Lib.hid t0
  have z0 := t0.1
  have z1 := t0.2
  clear b0 x0 t0 hx
  go_enter Try.func50, Try.ntmps50
  go_wp2_with fail
  generalize w.alloc (.cells #[.int .i64 a, .int .i64 b, .int .i64 c, .int .i64 d] 52) = w0 at *
  have y0 := X0.out.1
  have y1 := X0.out.2.1
  have y2 := X0.out.2.2.1
  have y3 := X0.out.2.2.2
  refine (lhas_any s _ a _ hs).mono ?_
  rintro e w1 ⟨rfl, hb1⟩
  have B1 := Lib.hid (Below.then B0.out hb1)
  have X1 := Lib.hid (X0.out.below hb1)
  have T1 := Lib.hid (T0.out.below hb1)
  clear hb1 B0 X0 T0 z0 z1 y0 y1 y2 y3
  have y0 := X1.out.1
  have y1 := X1.out.2.1
  have y2 := X1.out.2.2.1
  have y3 := X1.out.2.2.2
  have z0 := T1.out.1
  have z1 := T1.out.2
  rcases q1 : inB a 0 (s - 1) with _ | _
  · go_wp2
    go_ret
    exact ⟨ret_bool (by simp [resB, q1]), B1.out⟩
  · go_wp2_with fail
    refine (lhas_any s _ b _ hs).mono ?_
    rintro e w2 ⟨rfl, hb2⟩
    have B2 := Lib.hid (Below.then B1.out hb2)
    have X2 := Lib.hid (X1.out.below hb2)
    clear hb2 B1 X1 T1 z0 z1 y0 y1 y2 y3
    have y0 := X2.out.1
    have y1 := X2.out.2.1
    have y2 := X2.out.2.2.1
    have y3 := X2.out.2.2.2
    rcases q2 : inB b 0 (s - 1) with _ | _
    · go_wp2
      go_ret
      exact ⟨ret_bool (by simp [resB, q2]), B2.out⟩
    · rcases q3 : (a == b) with _ | _
      · rcases q4 : inB c 0 99 with _ | _
        all_goals
          go_wp2_with (go_at_call 39; refine (within_any _ _ _ _).mono ?_; rintro e w3 ⟨rfl, rfl⟩)
          go_ret
          exact ⟨ret_bool (by simp [resB, q1, q2, q3, q4]), B2.out⟩
      · go_wp2
        go_ret
        exact ⟨ret_bool (by simp [resB, q3]), B2.out⟩
theorem enters_leagueOk1 : Enters 50 := fun _ _ => by kernel_rfl
set_option maxHeartbeats 1000000 in
theorem implLeagueOk (s : Int) (sl : Value) (rs : List R4) (w : World) (h : RdR w sl rs) :
    Calls Try.prog 23 #[.agg #[.int .i64 s, sl]] w fun e w' => e = .returned (.bool (leagueB s rs)) ∧ Below w.heap.size w w' := by
  have HR := Lib.hid h
  obtain ⟨A, c, rfl, hl, hm, -⟩ := h
  unfold maxLen at hm
  rcases q1 : inB s 2 8 with _ | _
  · go_enter Try.func23, Try.ntmps23
    go_wp2_with (go_at_call 39; refine (within_any _ _ _ _).mono ?_; rintro e w3 ⟨rfl, rfl⟩)
    go_ret
    exact ⟨ret_bool (by simp [leagueB, q1]), below_alloc1 _ _⟩
  · have hs := inB_true.1 q1
    by_cases h60 : rs.length ≤ 60
    · have hd : decide ((60 : Int) < (rs.length : Int)) = false := by simp; omega
      have b0 := below_alloc1 w (.cells #[.int .i64 s, .slice A rs.length c] 36)
      have x0 := TBox.new w s (.slice A rs.length c) 36
      have HF : Hid (∀ r ∈ rs, ∀ w', Below (w.alloc (.cells #[.int .i64 s, .slice A rs.length c] 36)).heap.size (w.alloc (.cells #[.int .i64 s, .slice A rs.length c] 36)) w' →
          Calls Try.prog 50 (#[.agg #[.int .i64 r.1, .int .i64 r.2.1, .int .i64 r.2.2.1, .int .i64 r.2.2.2]] ++ #[.pointer (some ⟨w.heap.size, 0, none⟩)]) w' fun e w'' => e = .returned (.bool (!resB s r)) ∧ Below w'.heap.size w' w'') :=
        fun r _ w' hb => leagueOk1_any s (.slice A rs.length c) r w.heap.size w' (by omega) (x0.below hb)
      have B0 := Lib.hid b0
      clear b0 x0
      go_enter Try.func23, Try.ntmps23
      go_wp2_with (go_at_call 39; refine (within_any _ _ _ _).mono ?_; rintro e w3 ⟨rfl, rfl⟩)
      refine (containsFunc_anyR _ _ enters_leagueOk1 _ rs (fun r => !resB s r) _ (HR.out.alloc _) HF.out).mono ?_
      rintro e w1 ⟨rfl, hb1⟩
      have B1 := Lib.hid (Below.then B0.out hb1)
      clear hb1 HF
      go_wp2
      go_ret
      refine ⟨ret_bool ?_, B1.out⟩
      have : (!(rs.any fun r => !resB s r)) = rs.all (resB s) := by rw [List.all_eq_not_any_not]
      rw [this]
      simp [leagueB, q1, h60]
    · have hd : decide ((60 : Int) < (rs.length : Int)) = true := by simp; omega
      go_enter Try.func23, Try.ntmps23
      go_wp2_with (go_at_call 39; refine (within_any _ _ _ _).mono ?_; rintro e w3 ⟨rfl, rfl⟩)
      go_ret
      exact ⟨ret_bool (by simp [leagueB]; omega), below_alloc1 _ _⟩
end Go.Proofs.Ytdmneccfbfdloaa
