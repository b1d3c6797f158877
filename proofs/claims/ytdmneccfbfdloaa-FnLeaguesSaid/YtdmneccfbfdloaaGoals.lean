/- FnExactGoalsOf: the functions. -/
import Derived.Test.YtdmneccfbfdloaaMet
namespace Go.Proofs.Ytdmneccfbfdloaa
open Go.RowKit Go.Sort

/-- the goals of a club that plays in a result, and those of the other one -/
def gf1 (c : Int) (r : R4) : Int := if r.1 = c then r.2.2.1 else r.2.2.2
def gf2 (c : Int) (r : R4) : Int := if r.1 = c then r.2.2.2 else r.2.2.1
def plays (c : Int) (r : R4) : Bool := r.1 == c || r.2.1 == c
def madeN (rs : List R4) (c : Int) : Int := ((rs.filter (plays c)).map (gf1 c)).sum
def agN (rs : List R4) (c : Int) : Int := ((rs.filter (plays c)).map (gf2 c)).sum
theorem goals_yes {rs : List R4} {k : Nat} {c : Int} (hk : k < rs.length) (h : plays c (r4At rs k) = true) : madeN (rs.take (k + 1)) c = madeN (rs.take k) c + gf1 c (r4At rs k) ∧ agN (rs.take (k + 1)) c = agN (rs.take k) c + gf2 c (r4At rs k) := by
  rw [take_snocR hk]; simp [madeN, agN, List.filter_append, h]
theorem goals_no {rs : List R4} {k : Nat} {c : Int} (hk : k < rs.length) (h : plays c (r4At rs k) = false) : madeN (rs.take (k + 1)) c = madeN (rs.take k) c ∧ agN (rs.take (k + 1)) c = agN (rs.take k) c := by
  rw [take_snocR hk]; simp [madeN, agN, List.filter_append, h]
theorem r4_mem {rs : List R4} {k : Nat} (hk : k < rs.length) : r4At rs k ∈ rs := by
  rw [show r4At rs k = rs[k] by simp [r4At, hk]]; exact List.getElem_mem hk
theorem goals_bd {rs : List R4} {c : Int} (hv : ∀ r ∈ rs, (0 ≤ r.2.2.1 ∧ r.2.2.1 ≤ 99) ∧ (0 ≤ r.2.2.2 ∧ r.2.2.2 ≤ 99)) (k : Nat) (hk : k ≤ rs.length) :
    (0 ≤ madeN (rs.take k) c ∧ madeN (rs.take k) c ≤ 99 * k) ∧ (0 ≤ agN (rs.take k) c ∧ agN (rs.take k) c ≤ 99 * k) := by
  induction k with
  | zero => simp [madeN, agN]
  | succ k ih =>
    have ih := ih (by omega)
    have hr := hv _ (r4_mem (by omega : k < rs.length))
    rcases h : plays c (r4At rs k) with _ | _
    · rw [(goals_no (by omega) h).1, (goals_no (by omega) h).2]; omega
    · rw [(goals_yes (by omega) h).1, (goals_yes (by omega) h).2]
      unfold gf1 gf2
      split <;> omega
theorem league_goals {s : Int} {rs : List R4} (h : leagueB s rs = true) : ∀ r ∈ rs, (0 ≤ r.2.2.1 ∧ r.2.2.1 ≤ 99) ∧ (0 ≤ r.2.2.2 ∧ r.2.2.2 ≤ 99) := fun r hr => by
  have := resB_true.1 ((leagueB_true.1 h).2.2 r hr)
  exact ⟨this.2.2.2.1, this.2.2.2.2⟩

set_option maxHeartbeats 400000 in
theorem goalsFor_any (a b c d club : Int) (w : World) :
    Calls Try.prog 69 #[.agg #[.int .i64 a, .int .i64 b, .int .i64 c, .int .i64 d], .int .i64 club] w fun e w' => e = .returned (.tuple #[.int .i64 (gf1 club (a, b, c, d)), .int .i64 (gf2 club (a, b, c, d))]) ∧ Below w.heap.size w w' := by
  have B0 := Lib.hid (below_alloc1 w (.cells #[.int .i64 a, .int .i64 b, .int .i64 c, .int .i64 d] 52))
  have X0 := Box4.new w a b c d 52
  have y0 := X0.1
  have y1 := X0.2.1
  have y2 := X0.2.2.1
  have y3 := X0.2.2.2
  clear X0
  rcases e1 : (club == a) with _ | _
  · have h1 : gf1 club (a, b, c, d) = d ∧ gf2 club (a, b, c, d) = c := by
      have e2 : ¬ a = club := fun h => by simp [h] at e1
      simp [gf1, gf2, e2]
    have H := Lib.hid h1
    clear h1
    go_enter Try.func69, Try.ntmps69
    go_wp2
    go_quiet (fail)
    go_wp2
    go_ret2
    rw [H.out.1, H.out.2]
    exact ⟨rfl, below_drewN B0.out _⟩
  · have h1 : gf1 club (a, b, c, d) = c ∧ gf2 club (a, b, c, d) = d := by
      have e2 : a = club := by simpa using (beq_iff_eq.1 e1).symm
      simp [gf1, gf2, e2]
    have H := Lib.hid h1
    clear h1
    go_enter Try.func69, Try.ntmps69
    go_wp2
    go_quiet (fail)
    go_wp2
    go_ret2
    rw [H.out.1, H.out.2]
    exact ⟨rfl, below_drewN B0.out _⟩
set_option maxHeartbeats 1000000 in
theorem goals_any (s : Int) (sl : Value) (rs : List R4) (club : Int) (w : World) (h : RdR w sl rs) (hv : leagueB s rs = true) :
    Calls Try.prog 47 #[.agg #[.int .i64 s, sl], .int .i64 club] w fun e w' => e = .returned (.tuple #[.int .i64 (madeN rs club), .int .i64 (agN rs club)]) ∧ Below w.heap.size w w' := by
  obtain ⟨A, c, rfl, hl, hm, hc⟩ := h
  unfold maxLen at hm
  have h60 := (leagueB_true.1 hv).2.1
  have HV := Lib.hid (league_goals hv)
  generalize hn : rs.length = n at *
  have HN := Lib.hid hn
  have HC := Lib.hid hc
  clear hc hn hv
  go_enter Try.func47, Try.ntmps47
  go_wp2
  go_loopw [6, 7, 15] (fun t u i wr => ∃ k : Nat, k ≤ n ∧ i = .int .i64 k ∧ t = .int .i64 (madeN (rs.take k) club) ∧ u = .int .i64 (agN (rs.take k) club) ∧ Below w.heap.size w wr) (fun _ _ i _ => n - (intOf i).toNat)
  case atStart => exact ⟨0, by omega, rfl, by simp [madeN], by simp [agN], below_alloc1 _ _⟩
  case round =>
    obtain ⟨k, hk, rfl, rfl, rfl, hb⟩ := hrel
    by_cases hlt : k < n
    · obtain ⟨g, off, rfl, hbb, hr⟩ := HC.out (by omega)
      obtain ⟨x0, x1, x2, x3⟩ := (hr k hlt).keep (w' := wr) (fun p hp => hb.cell (by rw [hp]; exact hbb))
      have HY := Lib.hid (fun h => goals_yes (rs := rs) (k := k) (c := club) (by rw [HN.out]; exact hlt) h)
      have HZ := Lib.hid (fun h => goals_no (rs := rs) (k := k) (c := club) (by rw [HN.out]; exact hlt) h)
      have hle := goals_bd (c := club) HV.out k (by rw [HN.out]; omega)
      have hq4 := HV.out _ (r4_mem (by rw [HN.out]; exact hlt : k < rs.length))
      have hg1 : -1 ≤ gf1 club (r4At rs k) ∧ gf1 club (r4At rs k) ≤ 99 := by unfold gf1; split <;> omega
      have hg2 : -1 ≤ gf2 club (r4At rs k) ∧ gf2 club (r4At rs k) ≤ 99 := by unfold gf2; split <;> omega
      have hb1 := Below.then hb (below_alloc1 wr (.cells #[.int .i64 (r4At rs k).1, .int .i64 (r4At rs k).2.1, .int .i64 (r4At rs k).2.2.1, .int .i64 (r4At rs k).2.2.2] 52))
      have B1 := Lib.hid hb1
      clear hb hr hq4 hb1
      generalize hq : madeN (rs.take k) club = m at *
      generalize hq' : agN (rs.take k) club = m' at *
      generalize r4At rs k = q at *
      obtain ⟨qa, qb, qc, qd⟩ := q
      clear hq hq'
      rcases e1 : (qa == club) with _ | _
      · rcases e2 : (qb == club) with _ | _
        · have hp : plays club (qa, qb, qc, qd) = false := by simp [plays, e1, e2]
          go_wp2
          go_roundw
          case rel => exact ⟨k + 1, by omega, by go_num, by rw [(HZ.out hp).1], by rw [(HZ.out hp).2], B1.out⟩
          case measure => simp [intOf]; omega
        · have hp : plays club (qa, qb, qc, qd) = true := by simp [plays, e1, e2]
          go_wp2_with (go_at_call 69; refine (goalsFor_any _ _ _ _ _ _).mono ?_; rintro e w2 ⟨rfl, hb2⟩; have B2 := Lib.hid (Below.then B1.out hb2); clear hb2)
          go_roundw
          case rel => exact ⟨k + 1, by omega, by go_num, by rw [(HY.out hp).1], by rw [(HY.out hp).2], B2.out⟩
          case measure => simp [intOf]; omega
      · have hp : plays club (qa, qb, qc, qd) = true := by simp [plays, e1]
        go_wp2_with (go_at_call 69; refine (goalsFor_any _ _ _ _ _ _).mono ?_; rintro e w2 ⟨rfl, hb2⟩; have B2 := Lib.hid (Below.then B1.out hb2); clear hb2)
        go_roundw
        case rel => exact ⟨k + 1, by omega, by go_num, by rw [(HY.out hp).1], by rw [(HY.out hp).2], B2.out⟩
        case measure => simp [intOf]; omega
    · obtain rfl : k = n := by omega
      have ht : rs.take k = rs := List.take_of_length_le (by rw [HN.out]; exact Nat.le_refl _)
      rw [ht]
      go_wp2
      go_ret2
      exact ⟨rfl, hb⟩
noncomputable def goals1 (s : Int) (rs : List R4) (club : Int) : Int := if leagueB s rs = true ∧ inB club 0 (s - 1) = true then madeN rs club else -1
noncomputable def goals2 (s : Int) (rs : List R4) (club : Int) : Int := if leagueB s rs = true ∧ inB club 0 (s - 1) = true then agN rs club else -1
theorem goals12_no {s : Int} {rs : List R4} {club : Int} (h : ¬ (leagueB s rs = true ∧ inB club 0 (s - 1) = true)) : goals1 s rs club = -1 ∧ goals2 s rs club = -1 := by unfold goals1 goals2; rw [if_neg h, if_neg h]; exact ⟨rfl, rfl⟩
theorem goals12_yes {s : Int} {rs : List R4} {club : Int} (h : leagueB s rs = true ∧ inB club 0 (s - 1) = true) : goals1 s rs club = madeN rs club ∧ goals2 s rs club = agN rs club := by unfold goals1 goals2; rw [if_pos h, if_pos h]; exact ⟨rfl, rfl⟩
theorem ret_two {a b c d : Int} (h : a = c ∧ b = d) : Ending.returned (.tuple #[.int .i64 a, .int .i64 b]) = .returned (.tuple #[.int .i64 c, .int .i64 d]) := by rw [h.1, h.2]
set_option maxHeartbeats 1000000 in
theorem implGoalsOf (s : Int) (sl : Value) (rs : List R4) (club : Int) (w : World) (h : RdR w sl rs) :
    Calls Try.prog 25 #[.agg #[.int .i64 s, sl], .int .i64 club] w fun e w' => e = .returned (.tuple #[.int .i64 (goals1 s rs club), .int .i64 (goals2 s rs club)]) ∧ Below w.heap.size w w' := by
  have HR := Lib.hid h
  obtain ⟨A, c, rfl, -, -, -⟩ := h
  rcases q0 : leagueB s rs with _ | _
  case false =>
    go_enter Try.func25, Try.ntmps25
    go_wp2_with fail
    have b0 := below_alloc1 w (.cells #[.int .i64 s, .slice A rs.length c] 36)
    have x0 := TBox.new w s (.slice A rs.length c) 36
    generalize w.alloc (.cells #[.int .i64 s, .slice A rs.length c] 36) = w0 at *
    have HX0 := Lib.hid x0
    have HB0 := Lib.hid b0
    clear x0 b0
    have y0_0 := HX0.out.1
    have y1_0 := HX0.out.2
    go_wp2_with fail
    refine (implLeagueOk s _ rs _ (HR.out.below HB0.out)).mono ?_
    rintro e w1 ⟨rfl, hb⟩
    have HX1 := Lib.hid (HX0.out.below hb)
    have HB1 := Lib.hid (Below.then HB0.out hb)
    clear hb HX0 HB0 y0_0 y1_0
    have y0_1 := HX1.out.1
    have y1_1 := HX1.out.2
    rw [q0]
    go_wp2
    go_ret2
    exact ⟨ret_two ⟨(goals12_no (fun hp => by simp [hp.1, hp.2] at *)).1.symm, (goals12_no (fun hp => by simp [hp.1, hp.2] at *)).2.symm⟩, HB1.out⟩
  have hs := (leagueB_true.1 q0).1
  rcases q1 : inB club 0 (s - 1) with _ | _
  case false =>
    go_enter Try.func25, Try.ntmps25
    go_wp2_with fail
    have b0 := below_alloc1 w (.cells #[.int .i64 s, .slice A rs.length c] 36)
    have x0 := TBox.new w s (.slice A rs.length c) 36
    generalize w.alloc (.cells #[.int .i64 s, .slice A rs.length c] 36) = w0 at *
    have HX0 := Lib.hid x0
    have HB0 := Lib.hid b0
    clear x0 b0
    have y0_0 := HX0.out.1
    have y1_0 := HX0.out.2
    go_wp2_with fail
    refine (implLeagueOk s _ rs _ (HR.out.below HB0.out)).mono ?_
    rintro e w1 ⟨rfl, hb⟩
    have HX1 := Lib.hid (HX0.out.below hb)
    have HB1 := Lib.hid (Below.then HB0.out hb)
    clear hb HX0 HB0 y0_0 y1_0
    have y0_1 := HX1.out.1
    have y1_1 := HX1.out.2
    rw [q0]
    go_wp2_with fail
    refine (lhas_any s _ club _ (by omega)).mono ?_
    rintro e w2 ⟨rfl, hb⟩
    have HX2 := Lib.hid (HX1.out.below hb)
    have HB2 := Lib.hid (Below.then HB1.out hb)
    clear hb HX1 HB1 y0_1 y1_1
    have y0_2 := HX2.out.1
    have y1_2 := HX2.out.2
    rw [q1]
    go_wp2
    go_ret2
    exact ⟨ret_two ⟨(goals12_no (fun hp => by simp [hp.1, hp.2] at *)).1.symm, (goals12_no (fun hp => by simp [hp.1, hp.2] at *)).2.symm⟩, HB2.out⟩
  go_enter Try.func25, Try.ntmps25
  go_wp2_with fail
  have b0 := below_alloc1 w (.cells #[.int .i64 s, .slice A rs.length c] 36)
  have x0 := TBox.new w s (.slice A rs.length c) 36
  generalize w.alloc (.cells #[.int .i64 s, .slice A rs.length c] 36) = w0 at *
  have HX0 := Lib.hid x0
  have HB0 := Lib.hid b0
  clear x0 b0
  have y0_0 := HX0.out.1
  have y1_0 := HX0.out.2
  go_wp2_with fail
  refine (implLeagueOk s _ rs _ (HR.out.below HB0.out)).mono ?_
  rintro e w1 ⟨rfl, hb⟩
  have HX1 := Lib.hid (HX0.out.below hb)
  have HB1 := Lib.hid (Below.then HB0.out hb)
  clear hb HX0 HB0 y0_0 y1_0
  have y0_1 := HX1.out.1
  have y1_1 := HX1.out.2
  rw [q0]
  go_wp2_with fail
  refine (lhas_any s _ club _ (by omega)).mono ?_
  rintro e w2 ⟨rfl, hb⟩
  have HX2 := Lib.hid (HX1.out.below hb)
  have HB2 := Lib.hid (Below.then HB1.out hb)
  clear hb HX1 HB1 y0_1 y1_1
  have y0_2 := HX2.out.1
  have y1_2 := HX2.out.2
  rw [q1]
  go_wp2_with fail
  refine (goals_any s _ rs club _ (HR.out.below HB2.out) q0).mono ?_
  rintro e w3 ⟨rfl, hb⟩
  have HX3 := Lib.hid (HX2.out.below hb)
  have HB3 := Lib.hid (Below.then HB2.out hb)
  clear hb HX2 HB2 y0_2 y1_2
  have y0_3 := HX3.out.1
  have y1_3 := HX3.out.2
  go_wp2
  go_ret2
  exact ⟨ret_two ⟨(goals12_yes ⟨q0, q1⟩).1.symm, (goals12_yes ⟨q0, q1⟩).2.symm⟩, HB3.out⟩
end Go.Proofs.Ytdmneccfbfdloaa
