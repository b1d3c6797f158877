/- FnExactRecordOf: the functions. -/
import Derived.Test.YtdmneccfbfdloaaGoals
import Derived.Test.YtdmneccfbfdloaaCmp
import Derived.OwnWalk
namespace Go.Proofs.Ytdmneccfbfdloaa
open Go.RowKit Go.Sort

/-- 2 for a win of a club that plays, 1 for a draw, 0 for a defeat -/
def outc (club : Int) (r : R4) : Int := 1 + cmpI (gf1 club r) (gf2 club r)
theorem outc_cases (club : Int) (r : R4) : outc club r = 0 ∨ outc club r = 1 ∨ outc club r = 2 := by
  have := cmpI_bd (gf1 club r) (gf2 club r)
  unfold outc; omega
/-- points by goals -/
def p3 (x y : Int) : Int := if y < x then 3 else if x < y then 0 else 1
def ptsC (n : Int) : Int := if n = 2 then 3 else if n = 1 then 1 else 0
theorem p3_cmp (x y : Int) : p3 x y = ptsC (1 + cmpI x y) := by
  unfold p3 ptsC cmpI
  repeat' split
  all_goals first | omega | rfl
def recN (rs : List R4) (c : Int) (n : Int) : Nat := (rs.filter (fun r => plays c r && (outc c r == n))).length
theorem recN_le (rs : List R4) (c n : Int) (k : Nat) : recN (rs.take k) c n ≤ k := by
  unfold recN
  refine Nat.le_trans (List.length_filter_le _ _) ?_
  rw [List.length_take]; omega
theorem recN_yes {rs : List R4} {k : Nat} {c n : Int} (hk : k < rs.length) (h : plays c (r4At rs k) = true) (h2 : outc c (r4At rs k) = n) (m : Int) : recN (rs.take (k + 1)) c m = recN (rs.take k) c m + if n = m then 1 else 0 := by
  rw [take_snocR hk]
  unfold recN
  rw [List.filter_append, List.length_append]
  congr 1
  rw [List.filter_cons, h, h2]
  by_cases e : n = m
  · simp [e]
  · simp [e]
theorem recN_no {rs : List R4} {k : Nat} {c : Int} (hk : k < rs.length) (h : plays c (r4At rs k) = false) (m : Int) : recN (rs.take (k + 1)) c m = recN (rs.take k) c m := by
  rw [take_snocR hk]; simp [recN, List.filter_append, h]

/-- three counts in a box -/
def C3 (W : World) (g : Nat) (a b c : Int) : Prop := (W.cell? ⟨g, 0, none⟩ = some (.int .i64 a) ∧ W.cell? ⟨g, 1, none⟩ = some (.int .i64 b) ∧ W.cell? ⟨g, 2, none⟩ = some (.int .i64 c)) ∧ ∀ k, W.frozen? ⟨g, k, none⟩ = false
theorem C3.below {W W' : World} {g : Nat} {a b c : Int} (h : C3 W g a b c) (hb : Below W.heap.size W W') : C3 W' g a b c := by
  obtain ⟨⟨h0, h1, h2⟩, h3⟩ := h
  have hg := World.block_lt_of_cell? W _ h0
  obtain ⟨hc, hf⟩ := bcell hb
  exact ⟨⟨(hc _ _ hg).trans h0, (hc _ _ hg).trans h1, (hc _ _ hg).trans h2⟩, fun k => (hf _ _ hg).trans (h3 k)⟩
theorem C3.set {W : World} {g : Nat} {a b c : Int} (h : C3 W g a b c) (x : Int) :
    C3 (W.setCell ⟨g, 0, none⟩ (.int .i64 x)) g x b c ∧ C3 (W.setCell ⟨g, 1, none⟩ (.int .i64 x)) g a x c ∧ C3 (W.setCell ⟨g, 2, none⟩ (.int .i64 x)) g a b x := by
  obtain ⟨⟨h0, h1, h2⟩, h3⟩ := h
  have S : ∀ {p : Addr} {u : Value}, W.cell? p = some u → (W.setCell p (.int .i64 x)).cell? p = some (.int .i64 x) := fun h => World.cell?_setCell_same _ _ _ h
  have O : ∀ {p q : Addr} {u : Value}, p ≠ q → W.cell? q = some u → (W.setCell p (.int .i64 x)).cell? q = some u := fun hn h => (World.cell?_setCell_other _ _ _ _ hn).trans h
  have F : ∀ p k, (W.setCell p (.int .i64 x)).frozen? ⟨g, k, none⟩ = false := fun p k => by have := h3 k; simpa [go_sem] using this
  exact ⟨⟨⟨S h0, O (by simp) h1, O (by simp) h2⟩, F _⟩, ⟨⟨O (by simp) h0, S h1, O (by simp) h2⟩, F _⟩, ⟨⟨O (by simp) h0, O (by simp) h1, S h2⟩, F _⟩⟩
theorem C3.gt {W : World} {g : Nat} {a b c : Int} (h : C3 W g a b c) : g < W.heap.size := World.block_lt_of_cell? W _ h.1.1
set_option maxHeartbeats 400000 in
theorem outcome_any (a b c d club : Int) (w : World) :
    Calls Try.prog 52 #[.agg #[.int .i64 a, .int .i64 b, .int .i64 c, .int .i64 d], .int .i64 club] w fun e w' => e = .returned (.int .i64 (outc club (a, b, c, d))) ∧ Below w.heap.size w w' := by
  have B0 := Lib.hid (below_alloc1 w (.cells #[.int .i64 a, .int .i64 b, .int .i64 c, .int .i64 d] 52))
  have hbd := cmpI_bd (gf1 club (a, b, c, d)) (gf2 club (a, b, c, d))
  go_enter Try.func52, Try.ntmps52
  go_wp2_with fail
  refine (goalsFor_any _ _ _ _ _ _).mono ?_
  rintro e w1 ⟨rfl, hb⟩
  have B1 := Lib.hid (Below.then B0.out hb)
  clear hb
  go_wp2_with fail
  refine (compare_any _ _ _).mono ?_
  rintro e wz ⟨rfl, rfl⟩
  go_wp2
  go_ret
  exact ⟨rfl, B1.out⟩
noncomputable def recI (s : Int) (rs : List R4) (club : Int) (n : Int) : Int := if leagueB s rs = true ∧ inB club 0 (s - 1) = true then (recN rs club n : Int) else -1
noncomputable def rec1 (s : Int) (rs : List R4) (club : Int) : Int := recI s rs club 2
noncomputable def rec2 (s : Int) (rs : List R4) (club : Int) : Int := recI s rs club 1
noncomputable def rec3 (s : Int) (rs : List R4) (club : Int) : Int := recI s rs club 0
theorem recI_no {s : Int} {rs : List R4} {club n : Int} (h : ¬ (leagueB s rs = true ∧ inB club 0 (s - 1) = true)) : recI s rs club n = -1 := by unfold recI; rw [if_neg h]
theorem recI_yes {s : Int} {rs : List R4} {club n : Int} (h : leagueB s rs = true ∧ inB club 0 (s - 1) = true) : recI s rs club n = recN rs club n := by unfold recI; rw [if_pos h]
theorem ret_rec {s : Int} {rs : List R4} {club : Int} {a b c : Int} (h : ∀ n, recI s rs club n = if n = 2 then a else if n = 1 then b else if n = 0 then c else recI s rs club n) :
    Ending.returned (.tuple #[.int .i64 a, .int .i64 b, .int .i64 c]) = .returned (.tuple #[.int .i64 (rec1 s rs club), .int .i64 (rec2 s rs club), .int .i64 (rec3 s rs club)]) := by
  unfold rec1 rec2 rec3
  rw [h 2, h 1, h 0]; simp
theorem ret_rec_no {s : Int} {rs : List R4} {club : Int} (h : ¬ (leagueB s rs = true ∧ inB club 0 (s - 1) = true)) :
    Ending.returned (.tuple #[.int .i64 (-1), .int .i64 (-1), .int .i64 (-1)]) = .returned (.tuple #[.int .i64 (rec1 s rs club), .int .i64 (rec2 s rs club), .int .i64 (rec3 s rs club)]) := by
  unfold rec1 rec2 rec3
  rw [recI_no h, recI_no h, recI_no h]
theorem ret_rec_yes {s : Int} {rs : List R4} {club : Int} (h : leagueB s rs = true ∧ inB club 0 (s - 1) = true) :
    Ending.returned (.tuple #[.int .i64 (recN rs club 2 : Int), .int .i64 (recN rs club 1 : Int), .int .i64 (recN rs club 0 : Int)]) = .returned (.tuple #[.int .i64 (rec1 s rs club), .int .i64 (rec2 s rs club), .int .i64 (rec3 s rs club)]) := by
  unfold rec1 rec2 rec3
  rw [recI_yes h, recI_yes h, recI_yes h]
set_option maxHeartbeats 2000000 in
theorem implRecordOf (s : Int) (sl : Value) (rs : List R4) (club : Int) (w : World) (h : RdR w sl rs) :
    Calls Try.prog 24 #[.agg #[.int .i64 s, sl], .int .i64 club] w fun e w' => e = .returned (.tuple #[.int .i64 (rec1 s rs club), .int .i64 (rec2 s rs club), .int .i64 (rec3 s rs club)]) ∧ Below w.heap.size w w' := by
  have HR := Lib.hid h
  obtain ⟨A, c, rfl, -, hm, hc⟩ := h
  have HC := Lib.hid hc
  clear hc
  unfold maxLen at hm
  rcases q0 : leagueB s rs with _ | _
  case false =>
    go_enter Try.func24, Try.ntmps24
    go_wp2_with fail
    have b0 := below_alloc1 w (.cells #[.int .i64 s, .slice A rs.length c] 36)
    have x0 := TBox.new w s (.slice A rs.length c) 36
    generalize w.alloc (.cells #[.int .i64 s, .slice A rs.length c] 36) = w0 at *
    have HX0 := Lib.hid x0
    have HB0 := Lib.hid b0
    clear x0 b0
    have y0_0 := HX0.out.1
    have y1_0 := HX0.out.2
    go_wp2_with fail
    refine (implLeagueOk s _ rs _ (HR.out.below HB0.out)).mono ?_
    rintro e w1 ⟨rfl, hb⟩
    have HX1 := Lib.hid (HX0.out.below hb)
    have HB1 := Lib.hid (Below.then HB0.out hb)
    clear hb HX0 HB0 y0_0 y1_0
    have y0_1 := HX1.out.1
    have y1_1 := HX1.out.2
    rw [q0]
    go_wp2
    go_ret3
    exact ⟨ret_rec_no (fun hp => by simp [hp.1, hp.2] at *), HB1.out⟩
  have hs := (leagueB_true.1 q0).1
  have h60 := (leagueB_true.1 q0).2.1
  rcases q1 : inB club 0 (s - 1) with _ | _
  case false =>
    go_enter Try.func24, Try.ntmps24
    go_wp2_with fail
    have b0 := below_alloc1 w (.cells #[.int .i64 s, .slice A rs.length c] 36)
    have x0 := TBox.new w s (.slice A rs.length c) 36
    generalize w.alloc (.cells #[.int .i64 s, .slice A rs.length c] 36) = w0 at *
    have HX0 := Lib.hid x0
    have HB0 := Lib.hid b0
    clear x0 b0
    have y0_0 := HX0.out.1
    have y1_0 := HX0.out.2
    go_wp2_with fail
    refine (implLeagueOk s _ rs _ (HR.out.below HB0.out)).mono ?_
    rintro e w1 ⟨rfl, hb⟩
    have HX1 := Lib.hid (HX0.out.below hb)
    have HB1 := Lib.hid (Below.then HB0.out hb)
    clear hb HX0 HB0 y0_0 y1_0
    have y0_1 := HX1.out.1
    have y1_1 := HX1.out.2
    rw [q0]
    go_wp2_with fail
    refine (lhas_any s _ club _ (by omega)).mono ?_
    rintro e w2 ⟨rfl, hb⟩
    have HX2 := Lib.hid (HX1.out.below hb)
    have HB2 := Lib.hid (Below.then HB1.out hb)
    clear hb HX1 HB1 y0_1 y1_1
    have y0_2 := HX2.out.1
    have y1_2 := HX2.out.2
    rw [q1]
    go_wp2
    go_ret3
    exact ⟨ret_rec_no (fun hp => by simp [hp.1, hp.2] at *), HB2.out⟩
  go_enter Try.func24, Try.ntmps24
  go_wp2_with fail
  have b0 := below_alloc1 w (.cells #[.int .i64 s, .slice A rs.length c] 36)
  have x0 := TBox.new w s (.slice A rs.length c) 36
  generalize w.alloc (.cells #[.int .i64 s, .slice A rs.length c] 36) = w0 at *
  have HX0 := Lib.hid x0
  have HB0 := Lib.hid b0
  clear x0 b0
  have y0_0 := HX0.out.1
  have y1_0 := HX0.out.2
  go_wp2_with fail
  refine (implLeagueOk s _ rs _ (HR.out.below HB0.out)).mono ?_
  rintro e w1 ⟨rfl, hb⟩
  have HX1 := Lib.hid (HX0.out.below hb)
  have HB1 := Lib.hid (Below.then HB0.out hb)
  clear hb HX0 HB0 y0_0 y1_0
  have y0_1 := HX1.out.1
  have y1_1 := HX1.out.2
  rw [q0]
  go_wp2_with fail
  refine (lhas_any s _ club _ (by omega)).mono ?_
  rintro e w2 ⟨rfl, hb⟩
  have HX2 := Lib.hid (HX1.out.below hb)
  have HB2 := Lib.hid (Below.then HB1.out hb)
  clear hb HX1 HB1 y0_1 y1_1
  have y0_2 := HX2.out.1
  have y1_2 := HX2.out.2
  rw [q1]
  generalize hn : rs.length = n at *
  have HN := Lib.hid hn
  clear hn
  have hg0 : Hid (w.heap.size ≤ w2.heap.size) := HB2.out.size
  have hX3 := HX2.out.below (below_alloc1 w2 (.cells #[.int .i64 0, .int .i64 0, .int .i64 0] 76))
  have y1_3 := hX3.2
  clear hX3
  go_wp2
  clear y1_3
  go_loopw [22] (fun i wr => ∃ k : Nat, k ≤ n ∧ i = .int .i64 k ∧ C3 wr w2.heap.size (recN (rs.take k) club 0) (recN (rs.take k) club 1) (recN (rs.take k) club 2) ∧ Below w.heap.size w wr) (fun i _ => n - (intOf i).toNat)
  case atStart => exact ⟨0, by omega, rfl, ⟨⟨by simp [recN], by simp [recN], by simp [recN]⟩, fun k => by simp⟩, HB2.out.alloc (HB2.out.size) _⟩
  case round =>
    obtain ⟨k, hk, rfl, hC, hb⟩ := hrel
    by_cases hlt : k < n
    · obtain ⟨g, off, rfl, hbb, hr⟩ := HC.out (by omega)
      obtain ⟨x0, x1, x2, x3⟩ := (hr k hlt).keep (w' := wr) (fun p hp => hb.cell (by rw [hp]; exact hbb))
      have HY := Lib.hid (fun n h h2 => recN_yes (rs := rs) (k := k) (c := club) (n := n) (by rw [HN.out]; exact hlt) h h2)
      have HZ := Lib.hid (fun h => recN_no (rs := rs) (k := k) (c := club) (by rw [HN.out]; exact hlt) h)
      have l0 := recN_le rs club 0 k
      have l1 := recN_le rs club 1 k
      have l2 := recN_le rs club 2 k
      have hb0 := below_alloc1 wr (.cells #[.int .i64 (r4At rs k).1, .int .i64 (r4At rs k).2.1, .int .i64 (r4At rs k).2.2.1, .int .i64 (r4At rs k).2.2.2] 52)
      have B1 := Lib.hid (Below.then hb hb0)
      have C1 := Lib.hid (hC.below hb0)
      clear hb hr hb0 hC HX2 y0_2 y1_2
      generalize hq0 : recN (rs.take k) club 0 = m0 at *
      generalize hq1 : recN (rs.take k) club 1 = m1 at *
      generalize hq2 : recN (rs.take k) club 2 = m2 at *
      generalize r4At rs k = q at *
      obtain ⟨qa, qb, qc, qd⟩ := q
      have HQ0 := Lib.hid hq0
      have HQ1 := Lib.hid hq1
      have HQ2 := Lib.hid hq2
      clear hq0 hq1 hq2
      rcases hp : plays club (qa, qb, qc, qd) with _ | _
      · have e1 : (qa == club) = false := by
          unfold plays at hp; rw [Bool.or_eq_false_iff] at hp; exact hp.1
        have e2 : (qb == club) = false := by
          unfold plays at hp; rw [Bool.or_eq_false_iff] at hp; exact hp.2
        go_wp2
        go_roundw
        case rel => exact ⟨k + 1, by omega, by go_num, by rw [HZ.out hp, HZ.out hp, HZ.out hp, HQ0.out, HQ1.out, HQ2.out]; exact C1.out, B1.out⟩
        case measure => simp [intOf]; omega
      · have hst := fun e m => HY.out (outc club (qa, qb, qc, qd)) hp e m
        have HS := Lib.hid (hst rfl)
        have HO := Lib.hid (outc_cases club (qa, qb, qc, qd))
        clear hst
        rcases e1 : (qa == club) with _ | _
        case false =>
          have e2 : (qb == club) = true := by
            unfold plays at hp; rw [e1, Bool.false_or] at hp; exact hp
          go_wp2_with fail
          refine (outcome_any _ _ _ _ _ _).mono ?_
          rintro e w3 ⟨rfl, hb3⟩
          have B2 := Lib.hid (Below.then B1.out hb3)
          have C2 := Lib.hid (C1.out.below hb3)
          clear hb3 B1 C1 x0 x1 x2 x3
          obtain ⟨⟨z0, z1, z2⟩, zf⟩ := C2.out
          have f0 := zf 0
          have f1 := zf 1
          have f2 := zf 2
          clear zf
          generalize outc club (qa, qb, qc, qd) = o at *
          rcases HO.out with rfl | rfl | rfl
          all_goals
            go_wp2
            go_roundw
            case rel => exact ⟨k + 1, by omega, by go_num, by rw [HS.out 0, HS.out 1, HS.out 2, HQ0.out, HQ1.out, HQ2.out]; first | exact (C2.out.set _).1 | exact (C2.out.set _).2.1 | exact (C2.out.set _).2.2, B2.out.setCell (by exact hg0.out) _⟩
            case measure => simp [intOf]; omega
        case true =>
          go_wp2_with fail
          refine (outcome_any _ _ _ _ _ _).mono ?_
          rintro e w3 ⟨rfl, hb3⟩
          have B2 := Lib.hid (Below.then B1.out hb3)
          have C2 := Lib.hid (C1.out.below hb3)
          clear hb3 B1 C1 x0 x1 x2 x3
          obtain ⟨⟨z0, z1, z2⟩, zf⟩ := C2.out
          have f0 := zf 0
          have f1 := zf 1
          have f2 := zf 2
          clear zf
          generalize outc club (qa, qb, qc, qd) = o at *
          rcases HO.out with rfl | rfl | rfl
          all_goals
            go_wp2
            go_roundw
            case rel => exact ⟨k + 1, by omega, by go_num, by rw [HS.out 0, HS.out 1, HS.out 2, HQ0.out, HQ1.out, HQ2.out]; first | exact (C2.out.set _).1 | exact (C2.out.set _).2.1 | exact (C2.out.set _).2.2, B2.out.setCell (by exact hg0.out) _⟩
            case measure => simp [intOf]; omega
    · obtain rfl : k = n := by omega
      have ht : rs.take k = rs := List.take_of_length_le (by rw [HN.out]; exact Nat.le_refl _)
      rw [ht] at hC
      obtain ⟨⟨z0, z1, z2⟩, -⟩ := hC
      go_wp2
      go_quiet (fail)
      go_wp2
      go_ret3
      exact ⟨ret_rec_yes ⟨q0, q1⟩, below_drewN hb _⟩
end Go.Proofs.Ytdmneccfbfdloaa
