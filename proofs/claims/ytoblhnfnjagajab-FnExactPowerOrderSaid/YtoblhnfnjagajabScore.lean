/- FnExactScoreOf: the functions. -/
import Derived.Test.YtoblhnfnjagajabTourOkS
import Derived.Test.YtoblhnfnjagajabSets
namespace Go.Proofs.Ytoblhnfnjagajab
open Go.RowKit Go.Sort

/-- the number of binary digits 1 -/
def popN : Nat → Nat → Nat
  | 0, _ => 0
  | k + 1, n => n % 2 + popN k (n / 2)
theorem popN_zero (k : Nat) : popN k 0 = 0 := by
  induction k with
  | zero => rfl
  | succ k ih => simp [popN, ih]
theorem popN_le (k n : Nat) : popN k n ≤ k := by
  induction k generalizing n with
  | zero => simp [popN]
  | succ k ih =>
    have := ih (n / 2)
    simp only [popN]; omega
set_option maxHeartbeats 1000000 in
theorem l02Bits_any (x : Nat) (w : World) (h : x < 256) :
    Calls Try.prog 104 #[.int .i64 x] w fun e w' => e = .returned (.int .i64 (popN 8 x : Nat)) ∧ w = w' := by
  go_enter Try.func104, Try.ntmps104
  go_wp2
  go_loop [0, 3] (fun n t => ∃ j m k : Nat, j ≤ 8 ∧ n = .int .i64 m ∧ m < 2 ^ j ∧ t = .int .i64 k ∧ k ≤ 8 ∧ Hid (k + popN j m = popN 8 x)) (fun n _ => (intOf n).toNat)
  case atStart => exact ⟨8, x, 0, by omega, rfl, h, rfl, by omega, by simp [Hid]⟩
  case round =>
    obtain ⟨j, m, k, hj, rfl, hm, rfl, hk, HP⟩ := hrel
    by_cases h0 : 0 < m
    · obtain ⟨j, rfl⟩ : ∃ i, j = i + 1 := ⟨j - 1, by
        rcases j with _ | j
        · simp at hm; omega
        · omega⟩
      have hp := popN_le 8 x
      have hq : k + (m % 2 + popN j (m / 2)) = popN 8 x := HP.out
      clear HP
      have hand := i64_and_one (m : Int)
      have h2 : 2 ^ (j + 1) = 2 * 2 ^ j := by rw [Nat.pow_succ]; omega
      go_wp2
      go_round
      case rel => exact ⟨j, m / 2, k + m % 2, by omega, by first | go_num | (simp; omega), by omega, by first | go_num | (rw [hand]; go_num), by omega, by unfold Hid; omega⟩
      case measure => simp [intOf]; omega
    · obtain rfl : m = 0 := by omega
      have hq := HP.out
      rw [popN_zero] at hq
      go_wp2
      go_ret
      exact ⟨ret_int (by omega), rfl⟩
set_option maxHeartbeats 1000000 in
theorem ones64_any (x : Nat) (w : World) (h : x < 256) :
    Calls Try.prog 121 #[.int .u64 x] w fun e w' => e = .returned (.int .i64 (popN 8 x : Nat)) ∧ w = w' := by
  obtain ⟨n, rfl⟩ : ∃ n : Fin 256, n.val = x := ⟨⟨x, h⟩, rfl⟩
  go_enter Try.func121, Try.ntmps121
  go_wp2
  go_ret
  refine ⟨ret_int ?_, rfl⟩
  clear h
  revert n
  decide +kernel
set_option maxHeartbeats 400000 in
theorem ones_any (x : Nat) (w : World) (h : x < 256) :
    Calls Try.prog 106 #[.int .u64 x] w fun e w' => e = .returned (.int .i64 (popN 8 x : Nat)) ∧ w = w' := by
  go_enter Try.func106, Try.ntmps106
  go_wp2_with (go_at_call 121; refine (ones64_any _ _ h).mono ?_; rintro e w1 ⟨rfl, rfl⟩)
  go_ret
  exact ⟨rfl, rfl⟩
end Go.Proofs.Ytoblhnfnjagajab
