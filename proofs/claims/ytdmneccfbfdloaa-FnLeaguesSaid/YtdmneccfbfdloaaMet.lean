/- FnExactMeetingsOf: the functions. -/
import Derived.Test.YtdmneccfbfdloaaLok
namespace Go.Proofs.Ytdmneccfbfdloaa
open Go.RowKit Go.Sort

def metR (a b : Int) (r : R4) : Bool := (r.1 == a && r.2.1 == b) || (r.1 == b && r.2.1 == a)
def metN (rs : List R4) (a b : Int) : Nat := (rs.filter (metR a b)).length
theorem metN_le (rs : List R4) (a b : Int) (k : Nat) : metN (rs.take k) a b ≤ k := by
  unfold metN
  refine Nat.le_trans (List.length_filter_le _ _) ?_
  rw [List.length_take]; omega
theorem take_snocR {rs : List R4} {k : Nat} (hk : k < rs.length) : rs.take (k + 1) = rs.take k ++ [r4At rs k] := by
  rw [List.take_succ_eq_append_getElem hk]
  simp [r4At, hk]
theorem metN_yes {rs : List R4} {k : Nat} {a b : Int} (hk : k < rs.length) (h : metR a b (r4At rs k) = true) : metN (rs.take (k + 1)) a b = metN (rs.take k) a b + 1 := by
  rw [take_snocR hk]; simp [metN, List.filter_append, h]
theorem metN_no {rs : List R4} {k : Nat} {a b : Int} (hk : k < rs.length) (h : metR a b (r4At rs k) = false) : metN (rs.take (k + 1)) a b = metN (rs.take k) a b := by
  rw [take_snocR hk]; simp [metN, List.filter_append, h]

set_option maxHeartbeats 1000000 in
theorem meetings_any (s : Int) (sl : Value) (rs : List R4) (a b : Int) (w : World) (h : RdR w sl rs) :
    Calls Try.prog 53 #[.agg #[.int .i64 s, sl], .int .i64 a, .int .i64 b] w fun e w' => e = .returned (.int .i64 (metN rs a b)) ∧ Below w.heap.size w w' := by
  obtain ⟨A, c, rfl, hl, hm, hc⟩ := h
  unfold maxLen at hm
  generalize hn : rs.length = n at *
  have HN := Lib.hid hn
  have HC := Lib.hid hc
  clear hc hn
  go_enter Try.func53, Try.ntmps53
  go_wp2
  go_loopw [7, 13] (fun t i wr => ∃ k : Nat, k ≤ n ∧ i = .int .i64 k ∧ t = .int .i64 (metN (rs.take k) a b) ∧ Below w.heap.size w wr) (fun _ i _ => n - (intOf i).toNat)
  case atStart => exact ⟨0, by omega, rfl, by simp [metN], below_alloc1 _ _⟩
  case round =>
    obtain ⟨k, hk, rfl, rfl, hb⟩ := hrel
    by_cases hlt : k < n
    · obtain ⟨g, off, rfl, hbb, hr⟩ := HC.out (by omega)
      obtain ⟨x0, x1, x2, x3⟩ := (hr k hlt).keep (w' := wr) (fun p hp => hb.cell (by rw [hp]; exact hbb))
      have HY := Lib.hid (fun h => metN_yes (rs := rs) (k := k) (a := a) (b := b) (by rw [HN.out]; exact hlt) h)
      have HZ := Lib.hid (fun h => metN_no (rs := rs) (k := k) (a := a) (b := b) (by rw [HN.out]; exact hlt) h)
      have hle := metN_le rs a b k
      have B1 := Lib.hid (Below.then hb (below_alloc1 wr (.cells #[.int .i64 (r4At rs k).1, .int .i64 (r4At rs k).2.1, .int .i64 (r4At rs k).2.2.1, .int .i64 (r4At rs k).2.2.2] 52)))
      clear hb hr
      generalize hq : metN (rs.take k) a b = m at *
      generalize r4At rs k = q at *
      obtain ⟨qa, qb, qc, qd⟩ := q
      clear hq
      rcases e1 : (qa == a) with _ | _
      · rcases e3 : (qa == b) with _ | _
        · have hm : metR a b (qa, qb, qc, qd) = false := by simp [metR, e1, e3]
          go_wp2
          go_roundw
          case rel => exact ⟨k + 1, by omega, by go_num, by rw [HZ.out hm], B1.out⟩
          case measure => simp [intOf]; omega
        · rcases e4 : (qb == a) with _ | _
          · have hm : metR a b (qa, qb, qc, qd) = false := by simp [metR, e1, e3, e4]
            go_wp2
            go_roundw
            case rel => exact ⟨k + 1, by omega, by go_num, by rw [HZ.out hm], B1.out⟩
            case measure => simp [intOf]; omega
          · have hm : metR a b (qa, qb, qc, qd) = true := by simp [metR, e1, e3, e4]
            go_wp2
            go_roundw
            case rel => exact ⟨k + 1, by omega, by go_num, by rw [HY.out hm]; go_num, B1.out⟩
            case measure => simp [intOf]; omega
      · rcases e2 : (qb == b) with _ | _
        · rcases e3 : (qa == b) with _ | _
          · have hm : metR a b (qa, qb, qc, qd) = false := by simp [metR, e1, e2, e3]
            go_wp2
            go_roundw
            case rel => exact ⟨k + 1, by omega, by go_num, by rw [HZ.out hm], B1.out⟩
            case measure => simp [intOf]; omega
          · rcases e4 : (qb == a) with _ | _
            · have hm : metR a b (qa, qb, qc, qd) = false := by simp [metR, e1, e2, e3, e4]
              go_wp2
              go_roundw
              case rel => exact ⟨k + 1, by omega, by go_num, by rw [HZ.out hm], B1.out⟩
              case measure => simp [intOf]; omega
            · have hm : metR a b (qa, qb, qc, qd) = true := by simp [metR, e1, e2, e3, e4]
              go_wp2
              go_roundw
              case rel => exact ⟨k + 1, by omega, by go_num, by rw [HY.out hm]; go_num, B1.out⟩
              case measure => simp [intOf]; omega
        · have hm : metR a b (qa, qb, qc, qd) = true := by simp [metR, e1, e2]
          go_wp2
          go_roundw
          case rel => exact ⟨k + 1, by omega, by go_num, by rw [HY.out hm]; go_num, B1.out⟩
          case measure => simp [intOf]; omega
    · obtain rfl : k = n := by omega
      go_wp2
      go_ret
      exact ⟨ret_int (by rw [List.take_of_length_le (by rw [HN.out]; exact Nat.le_refl _)]), hb⟩
def metI (s : Int) (rs : List R4) (a b : Int) : Int := if leagueB s rs = true ∧ inB a 0 (s - 1) = true ∧ inB b 0 (s - 1) = true ∧ ¬ a = b then metN rs a b else -1
theorem metI_no {s : Int} {rs : List R4} {a b : Int} (h : ¬ (leagueB s rs = true ∧ inB a 0 (s - 1) = true ∧ inB b 0 (s - 1) = true ∧ ¬ a = b)) : metI s rs a b = -1 := by unfold metI; rw [if_neg h]
theorem metI_yes {s : Int} {rs : List R4} {a b : Int} (h : leagueB s rs = true ∧ inB a 0 (s - 1) = true ∧ inB b 0 (s - 1) = true ∧ ¬ a = b) : metI s rs a b = metN rs a b := by unfold metI; rw [if_pos h]
set_option maxHeartbeats 1000000 in
theorem implMeetings (s : Int) (sl : Value) (rs : List R4) (a b : Int) (w : World) (h : RdR w sl rs) :
    Calls Try.prog 28 #[.agg #[.int .i64 s, sl], .int .i64 a, .int .i64 b] w fun e w' => e = .returned (.int .i64 (metI s rs a b)) ∧ Below w.heap.size w w' := by
  have HR := Lib.hid h
  obtain ⟨A, c, rfl, -, -, -⟩ := h
  rcases q0 : leagueB s rs with _ | _
  case false =>
    go_enter Try.func28, Try.ntmps28
    go_wp2_with fail
    have b0 := below_alloc1 w (.cells #[.int .i64 s, .slice A rs.length c] 36)
    have x0 := TBox.new w s (.slice A rs.length c) 36
    generalize w.alloc (.cells #[.int .i64 s, .slice A rs.length c] 36) = w0 at *
    have HX0 := Lib.hid x0
    have HB0 := Lib.hid b0
    clear x0 b0
    have y0_0 := HX0.out.1
    have y1_0 := HX0.out.2
    go_wp2_with fail
    refine (implLeagueOk s _ rs _ (HR.out.below HB0.out)).mono ?_
    rintro e w1 ⟨rfl, hb⟩
    have HX1 := Lib.hid (HX0.out.below hb)
    have HB1 := Lib.hid (Below.then HB0.out hb)
    clear hb HX0 HB0 y0_0 y1_0
    have y0_1 := HX1.out.1
    have y1_1 := HX1.out.2
    rw [q0]
    go_wp2
    go_ret
    exact ⟨ret_int (metI_no (fun hp => by simp [hp.1, hp.2.1, hp.2.2.1, hp.2.2.2] at *)).symm, HB1.out⟩
  have hs := (leagueB_true.1 q0).1
  rcases q1 : inB a 0 (s - 1) with _ | _
  case false =>
    go_enter Try.func28, Try.ntmps28
    go_wp2_with fail
    have b0 := below_alloc1 w (.cells #[.int .i64 s, .slice A rs.length c] 36)
    have x0 := TBox.new w s (.slice A rs.length c) 36
    generalize w.alloc (.cells #[.int .i64 s, .slice A rs.length c] 36) = w0 at *
    have HX0 := Lib.hid x0
    have HB0 := Lib.hid b0
    clear x0 b0
    have y0_0 := HX0.out.1
    have y1_0 := HX0.out.2
    go_wp2_with fail
    refine (implLeagueOk s _ rs _ (HR.out.below HB0.out)).mono ?_
    rintro e w1 ⟨rfl, hb⟩
    have HX1 := Lib.hid (HX0.out.below hb)
    have HB1 := Lib.hid (Below.then HB0.out hb)
    clear hb HX0 HB0 y0_0 y1_0
    have y0_1 := HX1.out.1
    have y1_1 := HX1.out.2
    rw [q0]
    go_wp2_with fail
    refine (lhas_any s _ a _ (by omega)).mono ?_
    rintro e w2 ⟨rfl, hb⟩
    have HX2 := Lib.hid (HX1.out.below hb)
    have HB2 := Lib.hid (Below.then HB1.out hb)
    clear hb HX1 HB1 y0_1 y1_1
    have y0_2 := HX2.out.1
    have y1_2 := HX2.out.2
    rw [q1]
    go_wp2
    go_ret
    exact ⟨ret_int (metI_no (fun hp => by simp [hp.1, hp.2.1, hp.2.2.1, hp.2.2.2] at *)).symm, HB2.out⟩
  rcases q2 : inB b 0 (s - 1) with _ | _
  case false =>
    go_enter Try.func28, Try.ntmps28
    go_wp2_with fail
    have b0 := below_alloc1 w (.cells #[.int .i64 s, .slice A rs.length c] 36)
    have x0 := TBox.new w s (.slice A rs.length c) 36
    generalize w.alloc (.cells #[.int .i64 s, .slice A rs.length c] 36) = w0 at *
    have HX0 := Lib.hid x0
    have HB0 := Lib.hid b0
    clear x0 b0
    have y0_0 := HX0.out.1
    have y1_0 := HX0.out.2
    go_wp2_with fail
    refine (implLeagueOk s _ rs _ (HR.out.below HB0.out)).mono ?_
    rintro e w1 ⟨rfl, hb⟩
    have HX1 := Lib.hid (HX0.out.below hb)
    have HB1 := Lib.hid (Below.then HB0.out hb)
    clear hb HX0 HB0 y0_0 y1_0
    have y0_1 := HX1.out.1
    have y1_1 := HX1.out.2
    rw [q0]
    go_wp2_with fail
    refine (lhas_any s _ a _ (by omega)).mono ?_
    rintro e w2 ⟨rfl, hb⟩
    have HX2 := Lib.hid (HX1.out.below hb)
    have HB2 := Lib.hid (Below.then HB1.out hb)
    clear hb HX1 HB1 y0_1 y1_1
    have y0_2 := HX2.out.1
    have y1_2 := HX2.out.2
    rw [q1]
    go_wp2_with fail
    refine (lhas_any s _ b _ (by omega)).mono ?_
    rintro e w3 ⟨rfl, hb⟩
    have HX3 := Lib.hid (HX2.out.below hb)
    have HB3 := Lib.hid (Below.then HB2.out hb)
    clear hb HX2 HB2 y0_2 y1_2
    have y0_3 := HX3.out.1
    have y1_3 := HX3.out.2
    rw [q2]
    go_wp2
    go_ret
    exact ⟨ret_int (metI_no (fun hp => by simp [hp.1, hp.2.1, hp.2.2.1, hp.2.2.2] at *)).symm, HB3.out⟩
  rcases q3 : (a == b) with _ | _
  case true =>
    go_enter Try.func28, Try.ntmps28
    go_wp2_with fail
    have b0 := below_alloc1 w (.cells #[.int .i64 s, .slice A rs.length c] 36)
    have x0 := TBox.new w s (.slice A rs.length c) 36
    generalize w.alloc (.cells #[.int .i64 s, .slice A rs.length c] 36) = w0 at *
    have HX0 := Lib.hid x0
    have HB0 := Lib.hid b0
    clear x0 b0
    have y0_0 := HX0.out.1
    have y1_0 := HX0.out.2
    go_wp2_with fail
    refine (implLeagueOk s _ rs _ (HR.out.below HB0.out)).mono ?_
    rintro e w1 ⟨rfl, hb⟩
    have HX1 := Lib.hid (HX0.out.below hb)
    have HB1 := Lib.hid (Below.then HB0.out hb)
    clear hb HX0 HB0 y0_0 y1_0
    have y0_1 := HX1.out.1
    have y1_1 := HX1.out.2
    rw [q0]
    go_wp2_with fail
    refine (lhas_any s _ a _ (by omega)).mono ?_
    rintro e w2 ⟨rfl, hb⟩
    have HX2 := Lib.hid (HX1.out.below hb)
    have HB2 := Lib.hid (Below.then HB1.out hb)
    clear hb HX1 HB1 y0_1 y1_1
    have y0_2 := HX2.out.1
    have y1_2 := HX2.out.2
    rw [q1]
    go_wp2_with fail
    refine (lhas_any s _ b _ (by omega)).mono ?_
    rintro e w3 ⟨rfl, hb⟩
    have HX3 := Lib.hid (HX2.out.below hb)
    have HB3 := Lib.hid (Below.then HB2.out hb)
    clear hb HX2 HB2 y0_2 y1_2
    have y0_3 := HX3.out.1
    have y1_3 := HX3.out.2
    rw [q2]
    go_wp2
    go_ret
    exact ⟨ret_int (metI_no (fun hp => by simp [hp.1, hp.2.1, hp.2.2.1, hp.2.2.2] at *)).symm, HB3.out⟩
  go_enter Try.func28, Try.ntmps28
  go_wp2_with fail
  have b0 := below_alloc1 w (.cells #[.int .i64 s, .slice A rs.length c] 36)
  have x0 := TBox.new w s (.slice A rs.length c) 36
  generalize w.alloc (.cells #[.int .i64 s, .slice A rs.length c] 36) = w0 at *
  have HX0 := Lib.hid x0
  have HB0 := Lib.hid b0
  clear x0 b0
  have y0_0 := HX0.out.1
  have y1_0 := HX0.out.2
  go_wp2_with fail
  refine (implLeagueOk s _ rs _ (HR.out.below HB0.out)).mono ?_
  rintro e w1 ⟨rfl, hb⟩
  have HX1 := Lib.hid (HX0.out.below hb)
  have HB1 := Lib.hid (Below.then HB0.out hb)
  clear hb HX0 HB0 y0_0 y1_0
  have y0_1 := HX1.out.1
  have y1_1 := HX1.out.2
  rw [q0]
  go_wp2_with fail
  refine (lhas_any s _ a _ (by omega)).mono ?_
  rintro e w2 ⟨rfl, hb⟩
  have HX2 := Lib.hid (HX1.out.below hb)
  have HB2 := Lib.hid (Below.then HB1.out hb)
  clear hb HX1 HB1 y0_1 y1_1
  have y0_2 := HX2.out.1
  have y1_2 := HX2.out.2
  rw [q1]
  go_wp2_with fail
  refine (lhas_any s _ b _ (by omega)).mono ?_
  rintro e w3 ⟨rfl, hb⟩
  have HX3 := Lib.hid (HX2.out.below hb)
  have HB3 := Lib.hid (Below.then HB2.out hb)
  clear hb HX2 HB2 y0_2 y1_2
  have y0_3 := HX3.out.1
  have y1_3 := HX3.out.2
  rw [q2]
  go_wp2_with fail
  refine (meetings_any s _ rs a b _ (HR.out.below HB3.out)).mono ?_
  rintro e w4 ⟨rfl, hb⟩
  have HX4 := Lib.hid (HX3.out.below hb)
  have HB4 := Lib.hid (Below.then HB3.out hb)
  clear hb HX3 HB3 y0_3 y1_3
  have y0_4 := HX4.out.1
  have y1_4 := HX4.out.2
  go_wp2
  go_ret
  exact ⟨ret_int (metI_yes ⟨q0, q1, q2, by simpa using q3⟩).symm, HB4.out⟩
end Go.Proofs.Ytdmneccfbfdloaa
