/- LeagueOk, the program's and the reference's. -/
import Derived.Test.YtceeplhkokajhaaLg
import Derived.Test.YtceeplhkokajhaaSl
import Derived.Test.YtceeplhkokajhaaHofR
namespace Go.Proofs.Ytceeplhkokajhaa
open Go.RowKit Go.Sort

/-- what is asked of a result in a league of s clubs -/
def resB (s : Int) (r : R4) : Bool := inB r.1 0 (s - 1) && (inB r.2.1 0 (s - 1) && (!(r.1 == r.2.1) && (inB r.2.2.1 0 99 && inB r.2.2.2 0 99)))
def leagueB (s : Int) (rs : List R4) : Bool := inB s 2 8 && (decide (rs.length ≤ 60) && rs.all (resB s))
theorem leagueB_true {s : Int} {rs : List R4} : leagueB s rs = true ↔ (2 ≤ s ∧ s ≤ 8) ∧ rs.length ≤ 60 ∧ ∀ r ∈ rs, resB s r = true := by
  simp [leagueB, inB_true]
theorem resB_true {s : Int} {r : R4} : resB s r = true ↔ (0 ≤ r.1 ∧ r.1 ≤ s - 1) ∧ (0 ≤ r.2.1 ∧ r.2.1 ≤ s - 1) ∧ r.1 ≠ r.2.1 ∧ (0 ≤ r.2.2.1 ∧ r.2.2.1 ≤ 99) ∧ (0 ≤ r.2.2.2 ∧ r.2.2.2 ≤ 99) := by
  simp [resB, inB_true]

set_option maxHeartbeats 400000 in
theorem lhas_any (s : Int) (sl : Value) (a : Int) (w : World) (hs : -1000 ≤ s ∧ s ≤ 1000) :
    Calls Try.prog 67 #[.agg #[.int .i64 s, sl], .int .i64 a] w fun e w' => e = .returned (.bool (inB a 0 (s - 1))) ∧ Below w.heap.size w w' := by
  go_enter Try.func67, Try.ntmps67
  go_wp2_with (go_at_call 64; refine (within_any _ _ _ _).mono ?_; rintro e w1 ⟨rfl, rfl⟩)
  go_ret
  exact ⟨rfl, below_alloc1 _ _⟩
set_option maxHeartbeats 1000000 in
theorem leagueOk1_any (s : Int) (sl : Value) (r : R4) (g : Nat) (w : World) (hs : -1000 ≤ s ∧ s ≤ 1000) (hx : TBox w g s sl) :
    Calls Try.prog 66 #[.agg #[.int .i64 r.1, .int .i64 r.2.1, .int .i64 r.2.2.1, .int .i64 r.2.2.2], .pointer (some ⟨g, 0, none⟩)] w fun e w' => e = .returned (.bool (!resB s r)) ∧ Below w.heap.size w w' := by
  obtain ⟨a, b, c, d⟩ := r
  have b0 := below_alloc1 w (.cells #[.int .i64 a, .int .i64 b, .int .i64 c, .int .i64 d] 34)
  have x0 := Box4.new w a b c d 34
  have t0 := hx.below b0
  have B0 := Lib.hid b0
  have X0 := Lib.hid x0
  have T0 := Lib.hid t0
  have z0 := t0.1
  have z1 := t0.2
  clear b0 x0 t0 hx
  go_enter Try.func66, Try.ntmps66
  go_wp2_with fail
  generalize w.alloc (.cells #[.int .i64 a, .int .i64 b, .int .i64 c, .int .i64 d] 34) = w0 at *
  have y0 := X0.out.1
  have y1 := X0.out.2.1
  have y2 := X0.out.2.2.1
  have y3 := X0.out.2.2.2
  refine (lhas_any s _ a _ hs).mono ?_
  rintro e w1 ⟨rfl, hb1⟩
  have B1 := Lib.hid (Below.then B0.out hb1)
  have X1 := Lib.hid (X0.out.below hb1)
  have T1 := Lib.hid (T0.out.below hb1)
  clear hb1 B0 X0 T0 z0 z1 y0 y1 y2 y3
  have y0 := X1.out.1
  have y1 := X1.out.2.1
  have y2 := X1.out.2.2.1
  have y3 := X1.out.2.2.2
  have z0 := T1.out.1
  have z1 := T1.out.2
  rcases q1 : inB a 0 (s - 1) with _ | _
  · go_wp2
    go_ret
    exact ⟨ret_bool (by simp [resB, q1]), B1.out⟩
  · go_wp2_with fail
    refine (lhas_any s _ b _ hs).mono ?_
    rintro e w2 ⟨rfl, hb2⟩
    have B2 := Lib.hid (Below.then B1.out hb2)
    have X2 := Lib.hid (X1.out.below hb2)
    clear hb2 B1 X1 T1 z0 z1 y0 y1 y2 y3
    have y0 := X2.out.1
    have y1 := X2.out.2.1
    have y2 := X2.out.2.2.1
    have y3 := X2.out.2.2.2
    rcases q2 : inB b 0 (s - 1) with _ | _
    · go_wp2
      go_ret
      exact ⟨ret_bool (by simp [resB, q2]), B2.out⟩
    · rcases q3 : (a == b) with _ | _
      · rcases q4 : inB c 0 99 with _ | _
        all_goals
          go_wp2_with (go_at_call 64; refine (within_any _ _ _ _).mono ?_; rintro e w3 ⟨rfl, rfl⟩)
          go_ret
          exact ⟨ret_bool (by simp [resB, q1, q2, q3, q4]), B2.out⟩
      · go_wp2
        go_ret
        exact ⟨ret_bool (by simp [resB, q3]), B2.out⟩
theorem enters_leagueOk1 : Enters 66 := fun _ _ => by kernel_rfl
set_option maxHeartbeats 1000000 in
theorem implLeagueOk (s : Int) (sl : Value) (rs : List R4) (w : World) (h : RdR w sl rs) :
    Calls Try.prog 20 #[.agg #[.int .i64 s, sl]] w fun e w' => e = .returned (.bool (leagueB s rs)) ∧ Below w.heap.size w w' := by
  have HR := Lib.hid h
  obtain ⟨A, c, rfl, hl, hm, -⟩ := h
  unfold maxLen at hm
  rcases q1 : inB s 2 8 with _ | _
  · go_enter Try.func20, Try.ntmps20
    go_wp2_with (go_at_call 64; refine (within_any _ _ _ _).mono ?_; rintro e w3 ⟨rfl, rfl⟩)
    go_ret
    exact ⟨ret_bool (by simp [leagueB, q1]), below_alloc1 _ _⟩
  · have hs := inB_true.1 q1
    by_cases h60 : rs.length ≤ 60
    · have hd : decide ((60 : Int) < (rs.length : Int)) = false := by simp; omega
      have b0 := below_alloc1 w (.cells #[.int .i64 s, .slice A rs.length c] 30)
      have x0 := TBox.new w s (.slice A rs.length c) 30
      have HF : Hid (∀ r ∈ rs, ∀ w', Below (w.alloc (.cells #[.int .i64 s, .slice A rs.length c] 30)).heap.size (w.alloc (.cells #[.int .i64 s, .slice A rs.length c] 30)) w' →
          Calls Try.prog 66 (#[.agg #[.int .i64 r.1, .int .i64 r.2.1, .int .i64 r.2.2.1, .int .i64 r.2.2.2]] ++ #[.pointer (some ⟨w.heap.size, 0, none⟩)]) w' fun e w'' => e = .returned (.bool (!resB s r)) ∧ Below w'.heap.size w' w'') :=
        fun r _ w' hb => leagueOk1_any s (.slice A rs.length c) r w.heap.size w' (by omega) (x0.below hb)
      have B0 := Lib.hid b0
      clear b0 x0
      go_enter Try.func20, Try.ntmps20
      go_wp2_with (go_at_call 64; refine (within_any _ _ _ _).mono ?_; rintro e w3 ⟨rfl, rfl⟩)
      refine (containsFunc_anyR _ _ enters_leagueOk1 _ rs (fun r => !resB s r) _ (HR.out.alloc _) HF.out).mono ?_
      rintro e w1 ⟨rfl, hb1⟩
      have B1 := Lib.hid (Below.then B0.out hb1)
      clear hb1 HF
      go_wp2
      go_ret
      refine ⟨ret_bool ?_, B1.out⟩
      have : (!(rs.any fun r => !resB s r)) = rs.all (resB s) := by rw [List.all_eq_not_any_not]
      rw [this]
      simp [leagueB, q1, h60]
    · have hd : decide ((60 : Int) < (rs.length : Int)) = true := by simp; omega
      go_enter Try.func20, Try.ntmps20
      go_wp2_with (go_at_call 64; refine (within_any _ _ _ _).mono ?_; rintro e w3 ⟨rfl, rfl⟩)
      go_ret
      exact ⟨ret_bool (by simp [leagueB]; omega), below_alloc1 _ _⟩
set_option maxHeartbeats 2000000 in
theorem specLeagueOk (s : Int) (sl : Value) (rs : List R4) (w : World) (h : RdR w sl rs) :
    Calls Try.prog 49 #[.agg #[.int .i64 s, sl]] w fun e w' => e = .returned (.bool (leagueB s rs)) ∧ Below w.heap.size w w' := by
  obtain ⟨A, c, rfl, hl, hm, hc⟩ := h
  unfold maxLen at hm
  have HC := Lib.hid hc
  clear hc
  rcases q1 : inB s 2 8 with _ | _
  · go_enter Try.func49, Try.ntmps49
    go_wp2_with (go_at_call 85; refine (l01In_any _ _ _ _).mono ?_; rintro e w3 ⟨rfl, rfl⟩)
    go_ret
    exact ⟨ret_bool (by simp [leagueB, q1]), below_alloc1 _ _⟩
  · have hs := inB_true.1 q1
    by_cases h60 : rs.length ≤ 60
    · have hd : decide ((60 : Int) < (rs.length : Int)) = false := by simp; omega
      have b0 := below_alloc1 w (.cells #[.int .i64 s, .slice A rs.length c] 30)
      have x0 := TBox.new w s (.slice A rs.length c) 30
      go_enter Try.func49, Try.ntmps49
      go_wp2_with (go_at_call 85; refine (l01In_any _ _ _ _).mono ?_; rintro e w3 ⟨rfl, rfl⟩)
      generalize hn : rs.length = n at *
      have HN := Lib.hid hn
      generalize w.alloc (.cells #[.int .i64 s, .slice A n c] 30) = w0 at *
      have B0 := Lib.hid b0
      have X0 := Lib.hid x0
      clear b0 x0 hn
      go_loopw [18] (fun i wr => ∃ k : Nat, k ≤ n ∧ i = .int .i64 k ∧ Below w.heap.size w wr ∧ TBox wr w.heap.size s (.slice A n c) ∧ Hid (∀ j, j < k → resB s (r4At rs j) = true)) (fun i _ => n - (intOf i).toNat)
      case atStart => exact ⟨0, by omega, rfl, B0.out, X0.out, fun j h => absurd h (by omega)⟩
      case round =>
        obtain ⟨k, hk, rfl, hb, hx, HP⟩ := hrel
        by_cases hlt : k < n
        · obtain ⟨b, off, rfl, hbb, hr⟩ := HC.out (by omega)
          obtain ⟨x0, x1, x2, x3⟩ := (hr k hlt).keep (w' := wr) (fun p hp => hb.cell (by rw [hp]; exact hbb))
          have HNO : Hid (resB s (r4At rs k) = false → leagueB s rs = false) := fun hf => by
            rcases hL : leagueB s rs with _ | _
            · rfl
            · have := (leagueB_true.1 hL).2.2 (r4At rs k) (by
                have hkl : k < rs.length := by rw [HN.out]; exact hlt
                rw [show r4At rs k = rs[k] by simp [r4At, hkl]]; exact List.getElem_mem _)
              rw [hf] at this
              cases this
          have B1 := Lib.hid (Below.then hb (below_alloc1 wr (.cells #[.int .i64 (r4At rs k).1, .int .i64 (r4At rs k).2.1, .int .i64 (r4At rs k).2.2.1, .int .i64 (r4At rs k).2.2.2] 34)))
          have x0' := hx.below (below_alloc1 wr (.cells #[.int .i64 (r4At rs k).1, .int .i64 (r4At rs k).2.1, .int .i64 (r4At rs k).2.2.1, .int .i64 (r4At rs k).2.2.2] 34))
          have X1 := Lib.hid x0'
          have z0 := x0'.1
          clear hb hx hr x0'
          generalize hq : r4At rs k = q at *
          have HQ := Lib.hid hq
          clear hq
          obtain ⟨qa, qb, qc, qd⟩ := q
          rcases q1 : inB qa 0 (s - 1) with _ | _
          · go_wp2_with (go_at_call 85; refine (l01In_any _ _ _ _).mono ?_; rintro e w3 ⟨rfl, rfl⟩)
            go_ret
            exact ⟨ret_bool (HNO.out (by simp [resB, q1])).symm, B1.out⟩
          · rcases q2 : inB qb 0 (s - 1) with _ | _
            · go_wp2_with (go_at_call 85; refine (l01In_any _ _ _ _).mono ?_; rintro e w3 ⟨rfl, rfl⟩)
              go_ret
              exact ⟨ret_bool (HNO.out (by simp [resB, q2])).symm, B1.out⟩
            · rcases q3 : (qa == qb) with _ | _
              · rcases q4 : inB qc 0 99 with _ | _
                · go_wp2_with (go_at_call 85; refine (l01In_any _ _ _ _).mono ?_; rintro e w3 ⟨rfl, rfl⟩)
                  go_ret
                  exact ⟨ret_bool (HNO.out (by simp [resB, q4])).symm, B1.out⟩
                · rcases q5 : inB qd 0 99 with _ | _
                  · go_wp2_with (go_at_call 85; refine (l01In_any _ _ _ _).mono ?_; rintro e w3 ⟨rfl, rfl⟩)
                    go_ret
                    exact ⟨ret_bool (HNO.out (by simp [resB, q5])).symm, B1.out⟩
                  · go_wp2_with (go_at_call 85; refine (l01In_any _ _ _ _).mono ?_; rintro e w3 ⟨rfl, rfl⟩)
                    go_roundw
                    case rel =>
                      refine ⟨k + 1, by omega, by go_num, B1.out, X1.out, fun j hj => ?_⟩
                      by_cases hjk : j < k
                      · exact HP.out j hjk
                      · obtain rfl : j = k := by omega
                        rw [HQ.out]
                        simp [resB, q1, q2, q3, q4, q5]
                    case measure => simp [intOf]; omega
              · go_wp2_with (go_at_call 85; refine (l01In_any _ _ _ _).mono ?_; rintro e w3 ⟨rfl, rfl⟩)
                go_ret
                exact ⟨ret_bool (HNO.out (by simp [resB, q3])).symm, B1.out⟩
        · obtain rfl : k = n := by omega
          go_wp2
          go_ret
          refine ⟨ret_bool (leagueB_true.2 ⟨hs, by rw [HN.out]; exact h60, fun r hr => ?_⟩).symm, hb⟩
          obtain ⟨j, hj, rfl⟩ := List.mem_iff_getElem.1 hr
          have := HP.out j (by rw [← HN.out]; exact hj)
          rwa [show r4At rs j = rs[j] by simp [r4At, hj]] at this
    · have hd : decide ((60 : Int) < (rs.length : Int)) = true := by simp; omega
      go_enter Try.func49, Try.ntmps49
      go_wp2_with (go_at_call 85; refine (l01In_any _ _ _ _).mono ?_; rintro e w3 ⟨rfl, rfl⟩)
      go_ret
      exact ⟨ret_bool (by simp [leagueB]; omega), below_alloc1 _ _⟩
end Go.Proofs.Ytceeplhkokajhaa
