/- Small sets as natural numbers. -/
import Derived.Test.YtdmneccfbfdloaaBits
namespace Go.Proofs.Ytdmneccfbfdloaa
open Go.RowKit

/-- the set of the numbers below k with p -/
def setOf (p : Nat → Bool) : Nat → Nat
  | 0 => 0
  | k + 1 => setOf p k + if p k then 2 ^ k else 0
theorem setOf_lt (p : Nat → Bool) (k : Nat) : setOf p k < 2 ^ k := by
  induction k with
  | zero => simp [setOf]
  | succ k ih =>
    have := Nat.pow_succ (n := 2) (m := k)
    simp only [setOf]
    split <;> omega
theorem testBit_setOf (p : Nat → Bool) (k j : Nat) : (setOf p k).testBit j = (decide (j < k) && p j) := by
  induction k with
  | zero => simp [setOf]
  | succ k ih =>
    simp only [setOf]
    rcases h : p k with _ | _
    · simp only [Bool.false_eq_true, if_false, Nat.add_zero, ih]
      by_cases e : j = k
      · subst e; simp [h]
      · have : decide (j < k + 1) = decide (j < k) := by rw [decide_eq_decide]; omega
        rw [this]
    · simp only [if_true]
      rw [testBit_add_top _ _ _ (setOf_lt p k), ih]
      by_cases e : j = k
      · subst e; simp [h]
      · have : decide (j < k + 1) = decide (j < k) := by rw [decide_eq_decide]; omega
        rw [this]
        have : decide (k = j) = false := by simp; omega
        rw [this, Bool.or_false]
theorem setOf_eq {S k : Nat} {p : Nat → Bool} (h : ∀ j, S.testBit j = (decide (j < k) && p j)) : S = setOf p k := Nat.eq_of_testBit_eq fun j => by rw [h, testBit_setOf]
theorem setOf_congr {k : Nat} {p q : Nat → Bool} (h : ∀ j, j < k → p j = q j) : setOf p k = setOf q k := setOf_eq fun j => by
  rw [testBit_setOf]
  by_cases e : j < k
  · simp [h j e]
  · simp [e]
theorem testBit_full (n j : Nat) : (2 ^ n - 1).testBit j = decide (j < n) := Nat.testBit_two_pow_sub_one n j
theorem setOf_full {n : Nat} {p : Nat → Bool} (h : ∀ j, j < n → p j = true) : 2 ^ n - 1 = setOf p n := setOf_eq fun j => by
  rw [testBit_full]
  by_cases e : j < n
  · simp [e, h j e]
  · simp [e]
theorem pow_le {n : Nat} (h : n ≤ 8) : 2 ^ n ≤ 256 := Nat.le_trans (Nat.pow_le_pow_right (by decide) h) (by decide)
theorem setOf_small (p : Nat → Bool) {k : Nat} (h : k ≤ 8) : setOf p k < 256 := Nat.lt_of_lt_of_le (setOf_lt p k) (pow_le h)
theorem nodup_le : ∀ (n : Nat) (ys : List Int), ys.Nodup → (∀ y ∈ ys, 0 ≤ y ∧ y < n) → ys.length ≤ n := by
  intro n
  induction n with
  | zero =>
    intro ys _ h
    cases ys with
    | nil => simp
    | cons a l => have := h a (by simp); omega
  | succ n ih =>
    intro ys hn h
    have h1 := ih (ys.erase (n : Int)) (hn.erase _) (fun y hy => by
      have := (hn.mem_erase_iff).1 hy
      have h2 := h y this.2
      omega)
    by_cases hm : (n : Int) ∈ ys
    · rw [List.length_erase_of_mem hm] at h1; omega
    · rw [List.erase_of_not_mem hm] at h1; omega
theorem add_or {S a : Nat} (hS : S < 2 ^ 62) (ha : a ≤ 61) (h : S.testBit a = false) : S + 2 ^ a = S ||| 2 ^ a := by
  have hp : 2 ^ a ≤ 2 ^ 61 := Nat.pow_le_pow_right (by decide) ha
  have h1 : S < 2 ^ 64 := Nat.lt_trans hS (by decide)
  have h2 : 2 ^ a < 2 ^ 64 := Nat.lt_of_le_of_lt hp (by decide)
  have hb : (BitVec.ofNat 64 S) &&& (BitVec.ofNat 64 (2 ^ a)) = 0#64 := by
    apply BitVec.eq_of_toNat_eq
    rw [BitVec.toNat_and, BitVec.toNat_ofNat, BitVec.toNat_ofNat, Nat.mod_eq_of_lt h1, Nat.mod_eq_of_lt h2]
    apply Nat.eq_of_testBit_eq
    intro i
    rw [Nat.testBit_and, Nat.testBit_two_pow]
    by_cases e : a = i
    · subst e; simp [h]
    · simp [e]
  have := congrArg BitVec.toNat (BitVec.add_eq_or_of_and_eq_zero _ _ hb)
  rw [BitVec.toNat_add, BitVec.toNat_or, BitVec.toNat_ofNat, BitVec.toNat_ofNat, Nat.mod_eq_of_lt h1, Nat.mod_eq_of_lt h2, Nat.mod_eq_of_lt (by
    have e1 : (2 : Nat) ^ 62 = 4611686018427387904 := by decide
    have e2 : (2 : Nat) ^ 61 = 2305843009213693952 := by decide
    have e3 : (2 : Nat) ^ 64 = 18446744073709551616 := by decide
    omega)] at this
  exact this
/-- a new element -/
theorem testBit_add {S a : Nat} (hS : S < 2 ^ 62) (ha : a ≤ 61) (h : S.testBit a = false) (m : Nat) : (S + 2 ^ a).testBit m = (S.testBit m || decide (a = m)) := by
  rw [add_or hS ha h, Nat.testBit_or, Nat.testBit_two_pow]
theorem less_lt {S b n : Nat} (h : S < 2 ^ n) : less S b < 2 ^ n := lt_of_testBit fun m hm => by
  rw [testBit_less, Nat.testBit_lt_two_pow (Nat.lt_of_lt_of_le h (Nat.pow_le_pow_right (by decide) hm)), Bool.false_and]
/-- without an element -/
theorem sub_less {S a : Nat} (hS : S < 2 ^ 62) (ha : a ≤ 61) (h : S.testBit a = true) : S - 2 ^ a = less S (2 ^ a) := by
  have h1 := add_or (S := less S (2 ^ a)) (a := a) (less_lt hS) ha (by rw [testBit_less, Nat.testBit_two_pow]; simp)
  have h2 : less S (2 ^ a) ||| 2 ^ a = S := by
    apply Nat.eq_of_testBit_eq
    intro i
    rw [Nat.testBit_or, testBit_less, Nat.testBit_two_pow]
    by_cases e : a = i
    · subst e; simp [h]
    · simp [e]
  omega
theorem testBit_sub {S a : Nat} (hS : S < 2 ^ 62) (ha : a ≤ 61) (h : S.testBit a = true) (m : Nat) : (S - 2 ^ a).testBit m = (S.testBit m && !decide (a = m)) := by
  rw [sub_less hS ha h, testBit_less, Nat.testBit_two_pow]
theorem full_hi (n : Nat) (h : n ≤ 8) : wrap64 (wrap64 (2 ^ n) - 1) = 2 ^ n - 1 := by
  have h1 : 2 ^ n ≤ 2 ^ 8 := Nat.pow_le_pow_right (by decide) h
  have h3 : ((2 : Int) ^ n) = ((2 ^ n : Nat) : Int) := by simp
  rw [h3]
  rw [show (2 : Nat) ^ 8 = 256 from rfl] at h1
  have h2 : 0 < 2 ^ n := Nat.two_pow_pos _
  generalize 2 ^ n = p at *
  rw [IntWalk.wrap64_in (p : Int) (by omega), IntWalk.wrap64_in _ (by omega)]
theorem full_nat (n : Nat) (h : n ≤ 8) : wrap64 (wrap64 (2 ^ n) - 1) = ((2 ^ n - 1 : Nat) : Int) := by
  rw [full_hi n h, Int.natCast_sub Nat.one_le_two_pow]; simp
theorem shl_nat (a : Nat) (h : a ≤ 61) : wrap64 (2 ^ a) = ((2 ^ a : Nat) : Int) := by
  have h1 : 2 ^ a ≤ 2 ^ 61 := Nat.pow_le_pow_right (by decide) h
  rw [show (2 : Nat) ^ 61 = 2305843009213693952 from by decide] at h1
  have h2 : ((2 : Int) ^ a) = ((2 ^ a : Nat) : Int) := by simp
  rw [h2]
  generalize 2 ^ a = p at *
  rw [wrap64_nat _ (by omega)]
theorem pow_lt63 {a : Nat} (h : a ≤ 61) : 2 ^ a < 9223372036854775808 := by
  have h1 : 2 ^ a ≤ 2 ^ 61 := Nat.pow_le_pow_right (by decide) h
  rw [show (2 : Nat) ^ 61 = 2305843009213693952 from by decide] at h1
  omega
/-- 'S &^ (1<<a)' -/
theorem andNot_shl (S a : Nat) (hS : S < 4611686018427387904) (h : a ≤ 61) : bits .andNot .i64 (S : Int) (wrap64 (2 ^ a)) = ((less S (2 ^ a) : Nat) : Int) := by
  rw [shl_nat a h, i64_andNot_nat _ _ (by omega) (pow_lt63 h)]
/-- 'S | 1<<a' -/
theorem or_shl (S a : Nat) (hS : S < 4611686018427387904) (h : a ≤ 61) : bits .or .i64 (S : Int) (wrap64 (2 ^ a)) = ((S ||| 2 ^ a : Nat) : Int) := by
  rw [shl_nat a h, i64_or_nat _ _ (by omega) (pow_lt63 h)]
end Go.Proofs.Ytdmneccfbfdloaa
