/- FnExactKingStep: the functions. -/
import Derived.Test.YtceeplhkokajhabKing
namespace Go.Proofs.Ytceeplhkokajhab
open Go.RowKit Go.Sort

/-- who of two is gone to from a -/
def stepF (xs : List Int) (a best b : Nat) : Nat := if best = a ∨ popN 8 (winsN xs best) < popN 8 (winsN xs b) then b else best
def loseN (xs : List Int) (a n : Nat) : List Nat := (List.range n).filter fun b => bitI (xs.getD b 0) a
def kstK (xs : List Int) (a : Nat) (l : List Nat) : Nat := l.foldl (stepF xs a) a
def kstepN (xs : List Int) (a : Nat) : Nat := kstK xs a (loseN xs a xs.length)
noncomputable def kstepI (s : Int) (xs : List Int) (a : Int) : Int := if (tourB s xs && inB a 0 (s - 1)) = true then (kstepN xs a.toNat : Int) else -1
theorem kstK_snoc (xs : List Int) (a : Nat) (l : List Nat) (b : Nat) : kstK xs a (l ++ [b]) = stepF xs a (kstK xs a l) b := by simp [kstK]
theorem loseN_succ (xs : List Int) (a k : Nat) : loseN xs a (k + 1) = loseN xs a k ++ if bitI (xs.getD k 0) a then [k] else [] := by
  unfold loseN
  rw [List.range_succ, List.filter_append]
  congr 1
  rcases h : bitI (xs.getD k 0) a with _ | _ <;> simp [List.filter_cons, -List.getD_eq_getElem?_getD, h]
theorem stepF_mem (xs : List Int) (a best b : Nat) : stepF xs a best b = b ∨ stepF xs a best b = best := by unfold stepF; split <;> simp
theorem kstK_mem {xs : List Int} {a n : Nat} (ha : a < n) {l : List Nat} (hl : ∀ b ∈ l, b < n) : kstK xs a l < n := by
  have : ∀ (l : List Nat) (m : Nat), m < n → (∀ b ∈ l, b < n) → l.foldl (stepF xs a) m < n := by
    intro l
    induction l with
    | nil => intro m hm _; exact hm
    | cons b l ih =>
      intro m hm hl
      rw [List.foldl_cons]
      refine ih _ ?_ fun c hc => hl c (by simp [hc])
      rcases stepF_mem xs a m b with e | e
      · rw [e]; exact hl b (by simp)
      · rw [e]; exact hm
  exact this l a ha hl
theorem bit_nat {s : Int} {xs : List Int} (hp : tourP s xs) {a b : Nat} (ha : a < xs.length) : bitI (xs.getD a 0) b = (winsN xs a).testBit b := by
  rw [testBit_iff, ← (tour_wins hp ha).1]; rfl
/-- the set of those who beat a player -/
def lossN (xs : List Int) (a : Nat) : Nat := less (less (2 ^ xs.length - 1) (winsN xs a)) (2 ^ a)
theorem loss_list {s : Int} {xs : List Int} (hp : tourP s xs) {a : Nat} (ha : a < xs.length) : memN (lossN xs a) xs.length = loseN xs a xs.length := by
  unfold memN loseN
  refine List.filter_congr fun b hb => ?_
  have hb := List.mem_range.1 hb
  unfold lossN
  rw [testBit_less, testBit_less, testBit_full, Nat.testBit_two_pow, ← bit_nat hp ha]
  have hT := hp.2.2.2
  simp only [hb, decide_true, Bool.true_and]
  rcases Nat.lt_trichotomy a b with h | h | h
  · have h1 := (hT b hb).2 a h
    have e : decide (a = b) = false := by simp; omega
    rw [e]
    rcases h2 : bitI (xs.getD a 0) b with _ | _ <;> rcases h3 : bitI (xs.getD b 0) a with _ | _ <;> rw [h2, h3] at h1 <;> first | rfl | exact absurd rfl h1
  · subst h
    rw [(hT a ha).1]; simp
  · have h1 := (hT a ha).2 b h
    have e : decide (a = b) = false := by simp; omega
    rw [e]
    rcases h2 : bitI (xs.getD a 0) b with _ | _ <;> rcases h3 : bitI (xs.getD b 0) a with _ | _ <;> rw [h2, h3] at h1 <;> first | rfl | exact absurd rfl h1
theorem less_full_lt' (n S : Nat) : less (2 ^ n - 1) S < 2 ^ n := less_lt (by have := Nat.two_pow_pos n; omega)
theorem full_less {n W : Nat} (hW : W < 2 ^ n) : 2 ^ n - 1 - W = less (2 ^ n - 1) W := by
  have e : 2 ^ n - 1 - W = 2 ^ n - (W + 1) := by omega
  rw [e]
  apply Nat.eq_of_testBit_eq
  intro i
  rw [Nat.testBit_two_pow_sub_succ hW, testBit_less, testBit_full]
theorem loss_val {n W a : Nat} (hn : n ≤ 8) (hW : W < 2 ^ n) (ha : a < n) (hself : W.testBit a = false) :
    wrap64 (wrap64 (wrap64 (wrap64 (2 ^ n) - 1) - (W : Int)) - wrap64 (2 ^ a)) = ((less (less (2 ^ n - 1) W) (2 ^ a) : Nat) : Int) := by
  have hp8 := pow_le hn
  have hbit : (less (2 ^ n - 1) W).testBit a = true := by rw [testBit_less, testBit_full, hself]; simp [ha]
  have hlt : less (2 ^ n - 1) W < 256 := Nat.lt_of_lt_of_le (less_full_lt' n W) hp8
  have hge := Nat.ge_two_pow_of_testBit hbit
  have h3 := sub_less (Nat.lt_trans hlt (by decide)) (by omega) hbit
  have hpn : 1 ≤ 2 ^ n := Nat.one_le_two_pow
  rw [full_nat n hn, shl_nat a (by omega), ← Int.natCast_sub (by omega : W ≤ 2 ^ n - 1), full_less hW]
  rw [wrap64_nat _ (Nat.lt_trans hlt (by decide)), ← Int.natCast_sub hge, h3]
  exact wrap64_nat _ (Nat.lt_trans (less_lt (n := 8) hlt) (by decide))
end Go.Proofs.Ytceeplhkokajhab
