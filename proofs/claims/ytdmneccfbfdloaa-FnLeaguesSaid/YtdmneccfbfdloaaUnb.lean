/- FnExactUnbeatenIn: the functions. -/
import Derived.Test.YtdmneccfbfdloaaRec
import Derived.Test.YtdmneccfbfdloaaSets
namespace Go.Proofs.Ytdmneccfbfdloaa
open Go.RowKit Go.Sort

/-- the clubs below n without a defeat in the first k results -/
def unbK (rs : List R4) (k n : Nat) : Nat := setOf (fun c => recN (rs.take k) c 0 == 0) n
noncomputable def unbI (s : Int) (rs : List R4) : Int := if leagueB s rs = true then (unbK rs rs.length s.toNat : Int) else 0
def clr (r : R4) (S c : Nat) : Nat := if outc c r = 0 then less S (2 ^ c) else S
theorem testBit_clr (r : R4) (S c j : Nat) : (clr r S c).testBit j = (S.testBit j && !(c == j && outc c r == 0)) := by
  unfold clr
  split
  · rename_i h
    rw [testBit_less, Nat.testBit_two_pow]
    by_cases e : c = j
    · subst e; simp [h]
    · simp [e]
  · rename_i h
    have : (outc c r == 0) = false := by simpa using h
    rw [this]; simp
theorem clr_le (r : R4) {S c n : Nat} (h : S < 2 ^ n) : clr r S c < 2 ^ n := by
  unfold clr
  split
  · exact lt_of_testBit fun m hm => by
      rw [testBit_less, Nat.testBit_lt_two_pow (Nat.lt_of_lt_of_le h (Nat.pow_le_pow_right (by decide) hm)), Bool.false_and]
  · exact h
theorem clr_yes {r : R4} {S c : Nat} (h : outc c r = 0) : clr r S c = less S (2 ^ c) := by unfold clr; rw [if_pos h]
theorem clr_no {r : R4} {S c : Nat} (h : ¬ outc c r = 0) : clr r S c = S := by unfold clr; rw [if_neg h]
theorem unbK_zero (rs : List R4) (n : Nat) : unbK rs 0 n = 2 ^ n - 1 := (setOf_full fun j _ => by simp [recN]).symm
theorem unbK_step {rs : List R4} {k n h a : Nat} (hk : k < rs.length) (hh : (r4At rs k).1 = h) (ha : (r4At rs k).2.1 = a) :
    clr (r4At rs k) (clr (r4At rs k) (unbK rs k n) h) a = unbK rs (k + 1) n := setOf_eq fun j => by
  rw [testBit_clr, testBit_clr, unbK, testBit_setOf]
  by_cases hj : j < n
  · rcases hp : plays (j : Int) (r4At rs k) with _ | _
    · rw [recN_no hk hp]
      unfold plays at hp
      rw [hh, ha, Bool.or_eq_false_iff] at hp
      have e1 : (h == j) = false := by have := hp.1; simp at this ⊢; omega
      have e2 : (a == j) = false := by have := hp.2; simp at this ⊢; omega
      rw [e1, e2]; simp
    · rw [recN_yes hk hp rfl]
      unfold plays at hp
      rw [hh, ha, Bool.or_eq_true, beq_iff_eq, beq_iff_eq] at hp
      simp only [hj, decide_true, Bool.true_and]
      by_cases ho : outc (j : Int) (r4At rs k) = 0
      · rw [if_pos ho]
        have e3 : (recN (rs.take k) j 0 + 1 == 0) = false := by simp
        rw [e3]
        rcases hp with hp | hp
        · have : h = j := by omega
          subst this; simp [ho]
        · have : a = j := by omega
          subst this; simp [ho]
      · rw [if_neg ho, Nat.add_zero]
        have e1 : (h == j && outc (h : Int) (r4At rs k) == 0) = false := by
          by_cases e : h = j
          · subst e; simpa using ho
          · simp [e]
        have e2 : (a == j && outc (a : Int) (r4At rs k) == 0) = false := by
          by_cases e : a = j
          · subst e; simpa using ho
          · simp [e]
        rw [e1, e2]; simp
  · simp [hj]
set_option maxHeartbeats 2000000 in
theorem implUnb (s : Int) (sl : Value) (rs : List R4) (w : World) (h : RdR w sl rs) :
    Calls Try.prog 27 #[.agg #[.int .i64 s, sl]] w fun e w' => e = .returned (.int .i64 (unbI s rs)) ∧ Below w.heap.size w w' := by
  have HR := Lib.hid h
  obtain ⟨A, c, rfl, -, hm, hc⟩ := h
  have HC := Lib.hid hc
  clear hc
  unfold maxLen at hm
  rcases q0 : leagueB s rs with _ | _
  case false =>
    go_enter Try.func27, Try.ntmps27
    go_wp2_with fail
    have b0 := below_alloc1 w (.cells #[.int .i64 s, .slice A rs.length c] 36)
    have x0 := TBox.new w s (.slice A rs.length c) 36
    generalize w.alloc (.cells #[.int .i64 s, .slice A rs.length c] 36) = w0 at *
    have HX0 := Lib.hid x0
    have HB0 := Lib.hid b0
    clear x0 b0
    have y0_0 := HX0.out.1
    have y1_0 := HX0.out.2
    go_wp2_with fail
    refine (implLeagueOk s _ rs _ (HR.out.below HB0.out)).mono ?_
    rintro e w1 ⟨rfl, hb⟩
    have HX1 := Lib.hid (HX0.out.below hb)
    have HB1 := Lib.hid (Below.then HB0.out hb)
    clear hb HX0 HB0 y0_0 y1_0
    have y0_1 := HX1.out.1
    have y1_1 := HX1.out.2
    rw [q0]
    go_wp2
    go_ret
    exact ⟨ret_int (by simp [unbI, *]), HB1.out⟩
  have hs := (leagueB_true.1 q0).1
  have h60 := (leagueB_true.1 q0).2.1
  go_enter Try.func27, Try.ntmps27
  go_wp2_with fail
  have b0 := below_alloc1 w (.cells #[.int .i64 s, .slice A rs.length c] 36)
  have x0 := TBox.new w s (.slice A rs.length c) 36
  generalize w.alloc (.cells #[.int .i64 s, .slice A rs.length c] 36) = w0 at *
  have HX0 := Lib.hid x0
  have HB0 := Lib.hid b0
  clear x0 b0
  have y0_0 := HX0.out.1
  have y1_0 := HX0.out.2
  go_wp2_with fail
  refine (implLeagueOk s _ rs _ (HR.out.below HB0.out)).mono ?_
  rintro e w1 ⟨rfl, hb⟩
  have HX1 := Lib.hid (HX0.out.below hb)
  have HB1 := Lib.hid (Below.then HB0.out hb)
  clear hb HX0 HB0 y0_0 y1_0
  have y0_1 := HX1.out.1
  have y1_1 := HX1.out.2
  rw [q0]
  have HV := Lib.hid (fun r hr => resB_true.1 ((leagueB_true.1 q0).2.2 r hr))
  obtain ⟨n, rfl⟩ := Int.eq_ofNat_of_zero_le (by omega : 0 ≤ s)
  generalize hm' : rs.length = m at *
  have HN := Lib.hid hm'
  clear hm'
  have hfull := full_nat n (by omega)
  go_wp2
  go_loopw [3, 18] (fun t i wr => ∃ k : Nat, k ≤ m ∧ i = .int .i64 k ∧ t = .int .i64 (unbK rs k n : Nat) ∧ Below w.heap.size w wr) (fun _ i _ => m - (intOf i).toNat)
  case atStart => exact ⟨0, by omega, rfl, by rw [unbK_zero, ← hfull], HB1.out⟩
  case round =>
    obtain ⟨k, hk, rfl, rfl, hb⟩ := hrel
    have hsl : unbK rs k n < 2 ^ n := setOf_lt _ _
    clear hfull HX1 y0_1 y1_1
    by_cases hlt : k < m
    · obtain ⟨g, off, rfl, hbb, hr⟩ := HC.out (by omega)
      obtain ⟨x0, x1, x2, x3⟩ := (hr k hlt).keep (w' := wr) (fun p hp => hb.cell (by rw [hp]; exact hbb))
      have hv := HV.out _ (r4_mem (by rw [HN.out]; exact hlt : k < rs.length))
      obtain ⟨a, hha⟩ := Int.eq_ofNat_of_zero_le hv.1.1
      obtain ⟨b, hhb⟩ := Int.eq_ofNat_of_zero_le hv.2.1.1
      have ha8 : a < 8 := by omega
      have hb8 : b < 8 := by omega
      have HST := Lib.hid (unbK_step (n := n) (by rw [HN.out]; exact hlt : k < rs.length) hha hhb)
      have hb0 := below_alloc1 wr (.cells #[.int .i64 (r4At rs k).1, .int .i64 (r4At rs k).2.1, .int .i64 (r4At rs k).2.2.1, .int .i64 (r4At rs k).2.2.2] 52)
      have hX := Box4.new wr (r4At rs k).1 (r4At rs k).2.1 (r4At rs k).2.2.1 (r4At rs k).2.2.2 52
      have B1 := Lib.hid (Below.then hb hb0)
      have HX := Lib.hid hX
      clear hb hr hv hb0 hX
      generalize unbK rs k n = S0 at *
      generalize r4At rs k = q at *
      obtain ⟨qa, qb, qc, qd⟩ := q
      simp only at hha hhb
      subst hha hhb
      go_wp2
      clear x0 x1 x2 x3
      generalize hwe : wr.alloc (.cells #[.int .i64 (a : Int), .int .i64 (b : Int), .int .i64 qc, .int .i64 qd] 52) = we at *
      have hb2 := below_alloc1 we (.cells #[.int .i64 (a : Int), .int .i64 (b : Int)] 3)
      have B2 := Lib.hid (Below.then B1.out hb2)
      have X2 := Lib.hid (HX.out.below hb2)
      have Z0 : Hid ((we.alloc (.cells #[.int .i64 (a : Int), .int .i64 (b : Int)] 3)).cell? ⟨we.heap.size, 0, none⟩ = some (.int .i64 a)) := by unfold Hid; simp
      have Z1 : Hid ((we.alloc (.cells #[.int .i64 (a : Int), .int .i64 (b : Int)] 3)).cell? ⟨we.heap.size, 1, none⟩ = some (.int .i64 b)) := by unfold Hid; simp
      have Z2 : Hid (we.heap.size < (we.alloc (.cells #[.int .i64 (a : Int), .int .i64 (b : Int)] 3)).heap.size) := by unfold Hid; simp
      have hsz : we.heap.size = wr.heap.size + 1 := by rw [← hwe]; simp
      rw [hsz] at Z0 Z1 Z2
      clear hb2 B1 HX hwe
      generalize we.alloc (.cells #[.int .i64 (a : Int), .int .i64 (b : Int)] 3) = wx at *
      generalize wr.heap.size = gw at *
      clear hsz
      go_loopw [3, 28] (fun t i wi => ∃ j S : Nat, j ≤ 2 ∧ i = .int .i64 j ∧ t = .int .i64 S ∧ S < 2 ^ n ∧ Hid (S = if j = 0 then S0 else if j = 1 then clr ((a : Int), (b : Int), qc, qd) S0 a else clr ((a : Int), (b : Int), qc, qd) (clr ((a : Int), (b : Int), qc, qd) S0 a) b) ∧ Below wx.heap.size wx wi) (fun _ i _ => 2 - (intOf i).toNat)
      case atStart => exact ⟨0, S0, by omega, rfl, rfl, hsl, rfl, Below.refl _ _⟩
      case round =>
        obtain ⟨j, S, hj, rfl, rfl, hS, HS, hbi⟩ := hrel
        have hS8 : S < 256 := Nat.lt_of_lt_of_le hS (pow_le (by omega))
        have HBI := Lib.hid hbi
        have hc0 := (hbi.cell (by exact Z2.out)).trans Z0.out
        have hc1 := (hbi.cell (by exact Z2.out)).trans Z1.out
        obtain ⟨y0, y1, y2, y3⟩ := X2.out.below hbi
        clear hbi
        rcases (by omega : j = 0 ∨ j = 1 ∨ j = 2) with rfl | rfl | rfl
        · go_wp2_with fail
          refine (outcome_any _ _ _ _ _ _).mono ?_
          rintro e w3 ⟨rfl, hb3⟩
          have HB3 := Lib.hid (Below.then HBI.out hb3)
          clear hb3 hc0 hc1 y0 y1 y2 y3
          have hand := andNot_shl S a (by omega) (by omega)
          rcases ho : (outc (a : Int) ((a : Int), (b : Int), qc, qd) == 0) with _ | _
          · have ho' : ¬ outc (a : Int) ((a : Int), (b : Int), qc, qd) = 0 := by simpa using ho
            have HO := Lib.hid ho'
            clear ho'
            go_wp2
            go_roundw
            case rel => exact ⟨0 + 1, S, by omega, by go_num, rfl, hS, by have := HS.out; simp at this; unfold Hid; simp [clr_no HO.out, this], HB3.out⟩
            case measure => simp [intOf]
          · have ho' : outc (a : Int) ((a : Int), (b : Int), qc, qd) = 0 := by simpa using ho
            have HO := Lib.hid ho'
            clear ho'
            go_wp2
            go_roundw
            case rel => exact ⟨0 + 1, less S (2 ^ a), by omega, by go_num, by first | rfl | exact congrArg _ hand, less_lt hS, by have := HS.out; simp at this; unfold Hid; simp [clr_yes HO.out, this], HB3.out⟩
            case measure => simp [intOf]
        · go_wp2_with fail
          refine (outcome_any _ _ _ _ _ _).mono ?_
          rintro e w3 ⟨rfl, hb3⟩
          have HB3 := Lib.hid (Below.then HBI.out hb3)
          clear hb3 hc0 hc1 y0 y1 y2 y3
          have hand := andNot_shl S b (by omega) (by omega)
          rcases ho : (outc (b : Int) ((a : Int), (b : Int), qc, qd) == 0) with _ | _
          · have ho' : ¬ outc (b : Int) ((a : Int), (b : Int), qc, qd) = 0 := by simpa using ho
            have HO := Lib.hid ho'
            clear ho'
            go_wp2
            go_roundw
            case rel => exact ⟨1 + 1, S, by omega, by go_num, rfl, hS, by have := HS.out; simp at this; unfold Hid; simp [clr_no HO.out, this], HB3.out⟩
            case measure => simp [intOf]
          · have ho' : outc (b : Int) ((a : Int), (b : Int), qc, qd) = 0 := by simpa using ho
            have HO := Lib.hid ho'
            clear ho'
            go_wp2
            go_roundw
            case rel => exact ⟨1 + 1, less S (2 ^ b), by omega, by go_num, by first | rfl | exact congrArg _ hand, less_lt hS, by have := HS.out; simp at this; unfold Hid; simp [clr_yes HO.out, this], HB3.out⟩
            case measure => simp [intOf]
        · go_wp2
          go_roundw
          case rel => exact ⟨k + 1, by omega, by go_num, by rw [← HST.out]; have := HS.out; simp at this; rw [this], Below.then B2.out HBI.out⟩
          case measure => simp [intOf]; omega
    · obtain rfl : k = m := by omega
      go_wp2
      go_ret
      exact ⟨ret_int (by rw [unbI, q0, HN.out]; simp), hb⟩
end Go.Proofs.Ytdmneccfbfdloaa
