/- FnExactScoreOf: the functions. -/
import Derived.Test.YtkcffjojklmbpaaTourOkS
import Derived.Test.YtkcffjojklmbpaaSets
namespace Go.Proofs.Ytkcffjojklmbpaa
open Go.RowKit Go.Sort

/-- the number of binary digits 1 -/
def popN : Nat → Nat → Nat
  | 0, _ => 0
  | k + 1, n => n % 2 + popN k (n / 2)
theorem popN_zero (k : Nat) : popN k 0 = 0 := by
  induction k with
  | zero => rfl
  | succ k ih => simp [popN, ih]
theorem popN_le (k n : Nat) : popN k n ≤ k := by
  induction k generalizing n with
  | zero => simp [popN]
  | succ k ih =>
    have := ih (n / 2)
    simp only [popN]; omega
set_option maxHeartbeats 1000000 in
theorem ones64_any (x : Nat) (w : World) (h : x < 256) :
    Calls Try.prog 109 #[.int .u64 x] w fun e w' => e = .returned (.int .i64 (popN 8 x : Nat)) ∧ w = w' := by
  obtain ⟨n, rfl⟩ : ∃ n : Fin 256, n.val = x := ⟨⟨x, h⟩, rfl⟩
  go_enter Try.func109, Try.ntmps109
  go_wp2
  go_ret
  refine ⟨ret_int ?_, rfl⟩
  clear h
  revert n
  decide +kernel
set_option maxHeartbeats 400000 in
theorem ones_any (x : Nat) (w : World) (h : x < 256) :
    Calls Try.prog 106 #[.int .u64 x] w fun e w' => e = .returned (.int .i64 (popN 8 x : Nat)) ∧ w = w' := by
  go_enter Try.func106, Try.ntmps106
  go_wp2_with (go_at_call 109; refine (ones64_any _ _ h).mono ?_; rintro e w1 ⟨rfl, rfl⟩)
  go_ret
  exact ⟨rfl, rfl⟩
end Go.Proofs.Ytkcffjojklmbpaa
