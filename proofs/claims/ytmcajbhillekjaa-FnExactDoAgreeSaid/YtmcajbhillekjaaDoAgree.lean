/- FnExactDoAgree -/
import Derived.Test.YtmcajbhillekjaaLs
import Derived.Test.YtmcajbhillekjaaFrame
namespace Go.Proofs.Ytmcajbhillekjaa
open Go.RowKit

/-- what both programs compute -/
def agreeB (xs ys : List Int) : Bool := decide (xs.length = ys.length ∧ xs.length ≤ 40 ∧ ∀ i, i < xs.length → ∀ k, k < xs.length → ¬ (xs.getD k 0 < xs.getD i 0 ∧ ys.getD i 0 < ys.getD k 0))

theorem agree_no {xs ys : List Int} {n : Nat} (hn : xs.length = n) (k j : Nat) (hk : k < n) (hj : j < n) (hx : xs[j]?.getD 0 < xs[k]?.getD 0) (hy : ys[k]?.getD 0 < ys[j]?.getD 0) : agreeB xs ys = false := by
  refine decide_eq_false fun h => h.2.2 k (by omega) j (by omega) ⟨?_, ?_⟩
  · simpa using hx
  · simpa using hy
theorem agree_step {xs ys : List Int} {k j : Nat} (h : ∀ i, i < j → ¬ (xs.getD i 0 < xs.getD k 0 ∧ ys.getD k 0 < ys.getD i 0)) (hj : ¬ (xs[j]?.getD 0 < xs[k]?.getD 0 ∧ ys[k]?.getD 0 < ys[j]?.getD 0)) :
    ∀ i, i < j + 1 → ¬ (xs.getD i 0 < xs.getD k 0 ∧ ys.getD k 0 < ys.getD i 0) := by
  intro i hi
  by_cases hij : i < j
  · exact h i hij
  · obtain rfl : i = j := by omega
    simpa using hj

set_option maxHeartbeats 400000 in
theorem specDoAgree (v1 : Value) (xs : List Int) (v2 : Value) (ys : List Int) (w : World) (h1 : Rd w v1 xs) (h2 : Rd w v2 ys) :
    Calls Try.prog 11 #[v1, v2] w fun e w' => e = .returned (.bool (agreeB xs ys)) ∧ ∃ q, w' = w.drewN q := by
  obtain ⟨A, c, rfl, hl1, hm1, hc1⟩ := h1
  obtain ⟨B, d, rfl, hl2, hm2, hc2⟩ := h2
  unfold maxLen at hm1 hm2
  generalize hn : xs.length = n at *
  generalize hm : ys.length = m at *
  have H1 := Lib.hid hn
  have H2 := Lib.hid hm
  have H3 := Lib.hid hc1
  have H4 := Lib.hid hc2
  clear hn hm hc1 hc2
  by_cases hnm : n = m
  · subst hnm
    have hne : ((n : Int) != (n : Int)) = false := by simp
    by_cases h40 : n ≤ 40
    · have h40' : decide ((40 : Int) < (n : Int)) = false := by simp; omega
      go_enter Try.func11, Try.ntmps11
      go_wp2
      go_loopw [19] (fun i wr => ∃ k q : Nat, k ≤ n ∧ i = .int .i64 k ∧ wr = w.drewN q ∧ Hid (∀ i, i < k → ∀ j, j < n → ¬ (xs.getD j 0 < xs.getD i 0 ∧ ys.getD i 0 < ys.getD j 0))) (fun i _ => n - (intOf i).toNat)
      case atStart => exact ⟨0, 0, by omega, rfl, rfl, fun j hj => absurd hj (by omega)⟩
      case round =>
        obtain ⟨k, q, hk, rfl, rfl, HP⟩ := hrel
        by_cases hlt : k < n
        · obtain ⟨b, off, rfl, hb, hx⟩ := H3.out (by omega)
          obtain ⟨b', off', rfl, hb', hy⟩ := H4.out (by omega)
          have hxk := hx k hlt
          have hyk := hy k hlt
          have HX := Lib.hid hx
          have HY := Lib.hid hy
          clear hx hy
          go_wp2
          go_loopw [24] (fun i wr => ∃ j q : Nat, j ≤ n ∧ i = .int .i64 j ∧ wr = w.drewN q ∧ Hid (∀ i, i < j → ¬ (xs.getD i 0 < xs.getD k 0 ∧ ys.getD k 0 < ys.getD i 0))) (fun i _ => n - (intOf i).toNat)
          case atStart => exact ⟨0, q, by omega, rfl, rfl, fun j hj => absurd hj (by omega)⟩
          case round =>
            obtain ⟨j, q', hj, rfl, rfl, HQ⟩ := hrel
            by_cases hlj : j < n
            · have hxj := HX.out j hlj
              have hyj := HY.out j hlj
              by_cases hg : xs[j]?.getD 0 < xs[k]?.getD 0
              · have hd : decide (xs[j]?.getD 0 < xs[k]?.getD 0) = true := by simpa using hg
                go_wp2
                go_quiet (fail)
                go_wp2
                · have hy : ys[k]?.getD 0 < ys[j]?.getD 0 := by assumption
                  go_ret
                  exact ⟨ret_bool (agree_no H1.out k j hlt hlj hg hy).symm, q' + nq, by simp⟩
                · have hy : ys[j]?.getD 0 ≤ ys[k]?.getD 0 := by assumption
                  go_roundw
                  case rel =>
                    refine ⟨j + 1, _, by omega, by go_num, rfl, fun i hi => ?_⟩
                    exact agree_step HQ.out (by omega) i hi
                  case measure => simp [intOf]; omega
              · have hd : decide (xs[j]?.getD 0 < xs[k]?.getD 0) = false := by simpa using hg
                go_wp2
                go_quiet (fail)
                go_wp2
                go_roundw
                case rel =>
                  refine ⟨j + 1, _, by omega, by go_num, rfl, fun i hi => ?_⟩
                  exact agree_step HQ.out (by omega) i hi
                case measure => simp [intOf]; omega
            · obtain rfl : j = n := by omega
              go_wp2
              go_roundw
              case rel =>
                refine ⟨k + 1, _, by omega, by go_num, rfl, fun i hi => ?_⟩
                by_cases hik : i < k
                · exact HP.out i hik
                · obtain rfl : i = k := by omega
                  exact HQ.out
              case measure => simp [intOf]; omega
        · obtain rfl : k = n := by omega
          go_wp2
          go_ret
          refine ⟨ret_bool ?_, _, rfl⟩
          have h1 := H1.out
          have h2 := H2.out
          refine (decide_eq_true ⟨by omega, by omega, ?_⟩).symm
          rw [h1]
          exact HP.out
    · have h40' : decide ((40 : Int) < (n : Int)) = true := by simp; omega
      go_enter Try.func11, Try.ntmps11
      go_wp2
      go_ret
      refine ⟨ret_bool (decide_eq_false ?_).symm, 0, rfl⟩
      have := H1.out
      omega
  · have hne : ((n : Int) != (m : Int)) = true := by simp; omega
    go_enter Try.func11, Try.ntmps11
    go_wp2
    go_ret
    refine ⟨ret_bool (decide_eq_false ?_).symm, 0, rfl⟩
    have := H1.out
    have := H2.out
    omega

set_option maxHeartbeats 400000 in
theorem implDoAgree (v1 : Value) (xs : List Int) (v2 : Value) (ys : List Int) (w : World) (h1 : Rd w v1 xs) (h2 : Rd w v2 ys) :
    Calls Try.prog 13 #[v1, v2] w fun e w' => e = .returned (.bool (agreeB xs ys)) ∧ ∃ q, w' = w.drewN q := by
  obtain ⟨A, c, rfl, hl1, hm1, hc1⟩ := h1
  obtain ⟨B, d, rfl, hl2, hm2, hc2⟩ := h2
  unfold maxLen at hm1 hm2
  generalize hn : xs.length = n at *
  generalize hm : ys.length = m at *
  have H1 := Lib.hid hn
  have H2 := Lib.hid hm
  have H3 := Lib.hid hc1
  have H4 := Lib.hid hc2
  clear hn hm hc1 hc2
  by_cases hnm : n = m
  · subst hnm
    have hne : ((n : Int) != (n : Int)) = false := by simp
    by_cases h40 : n ≤ 40
    · have h40' : decide ((40 : Int) < (n : Int)) = false := by simp; omega
      go_enter Try.func13, Try.ntmps13
      go_wp2
      go_loopw [19] (fun i wr => ∃ k q : Nat, k ≤ n ∧ i = .int .i64 k ∧ wr = w.drewN q ∧ Hid (∀ i, i < k → ∀ j, j < n → ¬ (xs.getD j 0 < xs.getD i 0 ∧ ys.getD i 0 < ys.getD j 0))) (fun i _ => n - (intOf i).toNat)
      case atStart => exact ⟨0, 0, by omega, rfl, rfl, fun j hj => absurd hj (by omega)⟩
      case round =>
        obtain ⟨k, q, hk, rfl, rfl, HP⟩ := hrel
        by_cases hlt : k < n
        · obtain ⟨b, off, rfl, hb, hx⟩ := H3.out (by omega)
          obtain ⟨b', off', rfl, hb', hy⟩ := H4.out (by omega)
          have hxk := hx k hlt
          have hyk := hy k hlt
          have HX := Lib.hid hx
          have HY := Lib.hid hy
          clear hx hy
          go_wp2
          go_loopw [24] (fun i wr => ∃ j q : Nat, j ≤ n ∧ i = .int .i64 j ∧ wr = w.drewN q ∧ Hid (∀ i, i < j → ¬ (xs.getD i 0 < xs.getD k 0 ∧ ys.getD k 0 < ys.getD i 0))) (fun i _ => n - (intOf i).toNat)
          case atStart => exact ⟨0, q, by omega, rfl, rfl, fun j hj => absurd hj (by omega)⟩
          case round =>
            obtain ⟨j, q', hj, rfl, rfl, HQ⟩ := hrel
            by_cases hlj : j < n
            · have hxj := HX.out j hlj
              have hyj := HY.out j hlj
              by_cases hg : xs[j]?.getD 0 < xs[k]?.getD 0
              · have hd : decide (xs[j]?.getD 0 < xs[k]?.getD 0) = true := by simpa using hg
                go_wp2
                go_quiet (fail)
                go_wp2
                · have hy : ys[k]?.getD 0 < ys[j]?.getD 0 := by assumption
                  go_ret
                  exact ⟨ret_bool (agree_no H1.out k j hlt hlj hg hy).symm, q' + nq, by simp⟩
                · have hy : ys[j]?.getD 0 ≤ ys[k]?.getD 0 := by assumption
                  go_roundw
                  case rel =>
                    refine ⟨j + 1, _, by omega, by go_num, rfl, fun i hi => ?_⟩
                    exact agree_step HQ.out (by omega) i hi
                  case measure => simp [intOf]; omega
              · have hd : decide (xs[j]?.getD 0 < xs[k]?.getD 0) = false := by simpa using hg
                go_wp2
                go_quiet (fail)
                go_wp2
                go_roundw
                case rel =>
                  refine ⟨j + 1, _, by omega, by go_num, rfl, fun i hi => ?_⟩
                  exact agree_step HQ.out (by omega) i hi
                case measure => simp [intOf]; omega
            · obtain rfl : j = n := by omega
              go_wp2
              go_roundw
              case rel =>
                refine ⟨k + 1, _, by omega, by go_num, rfl, fun i hi => ?_⟩
                by_cases hik : i < k
                · exact HP.out i hik
                · obtain rfl : i = k := by omega
                  exact HQ.out
              case measure => simp [intOf]; omega
        · obtain rfl : k = n := by omega
          go_wp2
          go_ret
          refine ⟨ret_bool ?_, _, rfl⟩
          have h1 := H1.out
          have h2 := H2.out
          refine (decide_eq_true ⟨by omega, by omega, ?_⟩).symm
          rw [h1]
          exact HP.out
    · have h40' : decide ((40 : Int) < (n : Int)) = true := by simp; omega
      go_enter Try.func13, Try.ntmps13
      go_wp2
      go_ret
      refine ⟨ret_bool (decide_eq_false ?_).symm, 0, rfl⟩
      have := H1.out
      omega
  · have hne : ((n : Int) != (m : Int)) = true := by simp; omega
    go_enter Try.func13, Try.ntmps13
    go_wp2
    go_ret
    refine ⟨ret_bool (decide_eq_false ?_).symm, 0, rfl⟩
    have := H1.out
    have := H2.out
    omega


end Go.Proofs.Ytmcajbhillekjaa
