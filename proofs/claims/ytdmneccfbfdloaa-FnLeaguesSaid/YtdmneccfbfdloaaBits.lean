/- int64's bit operations on numbers that are not negative, told on natural numbers. -/
import Derived.Test.YtdmneccfbfdloaaBase
import Derived.Laws.BitsAllLaws
import Derived.Laws.BitsLemmas
namespace Go.Proofs.Ytdmneccfbfdloaa
open Go.RowKit

theorem ofInt_i64 (a : Nat) (ha : a < 9223372036854775808) : (BitVec.ofInt 64 (a : Int)).toNat = a := by
  rw [BitVec.ofInt_natCast, BitVec.toNat_ofNat]; exact Nat.mod_eq_of_lt (by omega)
theorem i64_and_nat (a b : Nat) (ha : a < 9223372036854775808) (hb : b < 9223372036854775808) : bits .and .i64 (a : Int) (b : Int) = ((a &&& b : Nat) : Int) := by
  have hx : a &&& b < 2 ^ 63 := Nat.and_lt_two_pow _ (by omega)
  show IntKind.i64.wrap ((BitVec.ofInt 64 (a : Int) &&& BitVec.ofInt 64 (b : Int)).toNat : Int) = _
  rw [BitVec.toNat_and, ofInt_i64 a ha, ofInt_i64 b hb, IntKind.wrap_i64]
  omega
theorem i64_or_nat (a b : Nat) (ha : a < 9223372036854775808) (hb : b < 9223372036854775808) : bits .or .i64 (a : Int) (b : Int) = ((a ||| b : Nat) : Int) := by
  have hx : a ||| b < 2 ^ 63 := Nat.or_lt_two_pow (by omega) (by omega)
  show IntKind.i64.wrap ((BitVec.ofInt 64 (a : Int) ||| BitVec.ofInt 64 (b : Int)).toNat : Int) = _
  rw [BitVec.toNat_or, ofInt_i64 a ha, ofInt_i64 b hb, IntKind.wrap_i64]
  omega
theorem i64_xor_nat (a b : Nat) (ha : a < 9223372036854775808) (hb : b < 9223372036854775808) : bits .xor .i64 (a : Int) (b : Int) = ((a ^^^ b : Nat) : Int) := by
  have hx : a ^^^ b < 2 ^ 63 := Nat.xor_lt_two_pow (by omega) (by omega)
  show IntKind.i64.wrap ((BitVec.ofInt 64 (a : Int) ^^^ BitVec.ofInt 64 (b : Int)).toNat : Int) = _
  rw [BitVec.toNat_xor, ofInt_i64 a ha, ofInt_i64 b hb, IntKind.wrap_i64]
  omega
/-- what is in a and not in b -/
def less (a b : Nat) : Nat := a ^^^ (a &&& b)
theorem testBit_less (a b i : Nat) : (less a b).testBit i = (a.testBit i && !b.testBit i) := by
  unfold less; rw [Nat.testBit_xor, Nat.testBit_and]; cases a.testBit i <;> cases b.testBit i <;> rfl
theorem i64_andNot_nat (a b : Nat) (ha : a < 9223372036854775808) (hb : b < 9223372036854775808) : bits .andNot .i64 (a : Int) (b : Int) = ((less a b : Nat) : Int) := by
  have e : (BitVec.ofInt 64 (a : Int) &&& ~~~BitVec.ofInt 64 (b : Int)).toNat = less a b := by
    apply Nat.eq_of_testBit_eq
    intro i
    rw [testBit_less, BitVec.toNat_and, Nat.testBit_and, ofInt_i64 a ha]
    rcases Nat.lt_or_ge i 64 with hi | hi
    · congr 1
      rw [BitVec.testBit_toNat, BitVec.getLsbD_not, ← BitVec.testBit_toNat, ofInt_i64 b hb]
      simp [hi]
    · rw [Nat.testBit_lt_two_pow (Nat.lt_of_lt_of_le ha (Nat.le_trans (by decide : 9223372036854775808 ≤ 2 ^ 64) (Nat.pow_le_pow_right (by decide) hi)))]
      simp
  have hx : less a b < 2 ^ 63 := Nat.xor_lt_two_pow (by omega) (Nat.and_lt_two_pow _ (by omega))
  show IntKind.i64.wrap ((BitVec.ofInt 64 (a : Int) &&& ~~~BitVec.ofInt 64 (b : Int)).toNat : Int) = _
  rw [e, IntKind.wrap_i64]
  omega
theorem i64_and_one (x : Int) : bits .and .i64 x 1 = x % 2 := by
  have h : (BitVec.ofInt 64 x &&& BitVec.ofInt 64 1).toNat = (x % 2).toNat := by
    rw [BitVec.toNat_and, show (BitVec.ofInt 64 1).toNat = 1 from rfl, Nat.and_one_is_mod, BitVec.toNat_ofInt]
    omega
  show IntKind.i64.wrap ((BitVec.ofInt 64 x &&& BitVec.ofInt 64 1).toNat : Int) = _
  rw [h, IntKind.wrap_i64]
  omega
/-- '1 << k' for a small k -/
theorem i64_shl_one (k : Nat) (hk : k ≤ 62) : IntKind.i64.wrap (1 * 2 ^ k) = ((2 ^ k : Nat) : Int) := by
  have h1 : 2 ^ k ≤ 2 ^ 62 := Nat.pow_le_pow_right (by decide) hk
  have h2 : ((2 : Int) ^ k) = ((2 ^ k : Nat) : Int) := by simp
  rw [Int.one_mul, h2, IntKind.wrap_i64]
  rw [show (2 : Nat) ^ 62 = 4611686018427387904 from by decide] at h1
  generalize 2 ^ k = p at *
  omega
theorem testBit_iff (n k : Nat) : n.testBit k = decide ((n : Int) / 2 ^ k % 2 = 1) := by
  rw [Nat.testBit_eq_decide_div_mod_eq]
  have h : ((n : Int) / 2 ^ k % 2) = ((n / 2 ^ k % 2 : Nat) : Int) := by simp
  rw [h]
  congr 1
  apply propext
  omega
/-- 'S>>d&1 == 1' as the walk has it -/
theorem bit_test (S d : Nat) : (bits BinOp.and IntKind.i64 ((S : Int) / 2 ^ d) 1 == 1) = S.testBit d := by
  rw [i64_and_one, testBit_iff, Bool.eq_iff_iff]
  simp
theorem wrap64_nat (n : Nat) (h : n < 9223372036854775808) : wrap64 (n : Int) = n := IntWalk.wrap64_in _ (by omega)
/-- 'S + 1<<d' -/
theorem add_shl (S d : Nat) (hS : S < 4611686018427387904) (hd : d ≤ 61) : wrap64 ((S : Int) + wrap64 (2 ^ d)) = ((S + 2 ^ d : Nat) : Int) := by
  have h1 : 2 ^ d ≤ 2 ^ 61 := Nat.pow_le_pow_right (by decide) hd
  rw [show (2 : Nat) ^ 61 = 2305843009213693952 from by decide] at h1
  have h2 : ((2 : Int) ^ d) = ((2 ^ d : Nat) : Int) := by simp
  rw [h2]
  generalize 2 ^ d = p at *
  rw [wrap64_nat _ (by omega), ← Int.natCast_add, wrap64_nat _ (by omega)]
/-- a new greatest element -/
theorem testBit_add_top (S d m : Nat) (h : S < 2 ^ d) : (S + 2 ^ d).testBit m = (S.testBit m || decide (d = m)) := by
  have := Nat.two_pow_add_eq_or_of_lt h 1
  rw [Nat.mul_one] at this
  rw [Nat.add_comm, this, Nat.testBit_or, Nat.testBit_two_pow, Bool.or_comm]
theorem lt_of_testBit {S d : Nat} (h : ∀ m, d ≤ m → S.testBit m = false) : S < 2 ^ d := Nat.lt_pow_two_of_testBit S fun m hm => h m hm
end Go.Proofs.Ytdmneccfbfdloaa
