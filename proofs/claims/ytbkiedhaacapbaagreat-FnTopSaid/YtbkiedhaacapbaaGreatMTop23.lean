/- Texts put together: SkP, Mix, SkQ. -/
import Derived.Test.YtbkiedhaacapbaaGreatMTop07
import Derived.Test.YtbkiedhaacapbaaGreatMTop02
import Derived.Test.YtbkiedhaacapbaaGreatMTop01
namespace Go.Proofs.YtbkiedhaacapbaaGreat
set_option maxRecDepth 100000
structure SkT (A : Nat → Nat → Int) (m : Nat) : Prop where
  diag : ∀ i, i < m → A i i = 0
  skew : ∀ i k, i < m → k < m → A i k = - A k i
  one : ∀ i k, i < m → k < m → i ≠ k → A i k = 1 ∨ A i k = -1
/-- a kernel vector: each row's sum is 0 -/
def kerV (A : Nat → Nat → Int) (m : Nat) (w : Nat → Int) : Prop := ∀ k, k < m → sumN (fun i => A i k * w i) m = 0
theorem ker_lin {A : Nat → Nat → Int} {m : Nat} {x y : Nat → Int} (hx : kerV A m x) (hy : kerV A m y) (p q : Int) : kerV A m fun i => p * x i - q * y i := by
  intro k hk
  rw [sumN_congr (g := fun i => p * (A i k * x i) - q * (A i k * y i)) fun i _ => by
    rw [Int.mul_sub, ← Int.mul_assoc, ← Int.mul_assoc, Int.mul_comm (A i k) p, Int.mul_comm (A i k) q, Int.mul_assoc, Int.mul_assoc], sumN_sub, sumN_mul, sumN_mul, hx k hk, hy k hk]
  simp
theorem sumN_mod2 {f g : Nat → Int} : ∀ m, (∀ i, i < m → (f i - g i) % 2 = 0) → (sumN f m - sumN g m) % 2 = 0 := by
  intro m
  induction m with
  | zero => intro _; simp [sumN]
  | succ m ih =>
    intro h
    have h1 := ih fun i hi => h i (by omega)
    have h2 := h m (by omega)
    rw [sumN, sumN]
    omega
theorem ker_par {A : Nat → Nat → Int} {m : Nat} (hA : SkT A m) {w : Nat → Int} (hw : kerV A m w) {k : Nat} (hk : k < m) : (sumN w m - w k) % 2 = 0 := by
  have h1 : (sumN (fun i => A i k * w i) m - sumN (fun i => w i - if i = k then w k else 0) m) % 2 = 0 := sumN_mod2 m fun i hi => by
    by_cases e : i = k
    · subst e; rw [hA.diag i hi, if_pos rfl]; omega
    · rw [if_neg e]
      rcases hA.one i k hi hk e with h | h <;> rw [h] <;> omega
  rw [hw k hk, sumN_sub, sumN_one hk (fun i _ hi => if_neg hi), if_pos rfl] at h1
  omega
/-- a kernel vector that is not 0 is 0 nowhere -/
theorem ker_nz {A : Nat → Nat → Int} {m : Nat} (hA : SkT A m) : ∀ B (w : Nat → Int), kerV A m w → (∃ a, a < m ∧ w a ≠ 0 ∧ (w a).natAbs < B) → ∀ a, a < m → w a ≠ 0 := by
  intro B
  induction B with
  | zero => rintro w _ ⟨a, _, _, h⟩; omega
  | succ B ih =>
    rintro w hw ⟨a0, ha0, h0, hB⟩ a ha
    rcases Int.emod_two_eq (sumN w m) with hT | hT
    · have hev : ∀ i, i < m → w i = 2 * (w i / 2) := fun i hi => by have := ker_par hA hw hi; omega
      have hw' : kerV A m fun i => w i / 2 := fun k hk => by
        have h1 := hw k hk
        rw [sumN_congr (g := fun i => 2 * (A i k * (w i / 2))) fun i hi => by
          have := hev i hi
          rw [← Int.mul_assoc, Int.mul_comm 2 (A i k), Int.mul_assoc, ← this], sumN_mul] at h1
        show sumN (fun i => A i k * (w i / 2)) m = 0
        omega
      have := ih _ hw' ⟨a0, ha0, by have := hev a0 ha0; omega, by have := hev a0 ha0; omega⟩ a ha
      intro e
      apply this
      show w a / 2 = 0
      rw [e]; rfl
    · have := ker_par hA hw ha
      omega
theorem ker_zero {A : Nat → Nat → Int} {m : Nat} (hA : SkT A m) {w : Nat → Int} (hw : kerV A m w) {a0 : Nat} (ha0 : a0 < m) (h0 : w a0 = 0) : ∀ a, a < m → w a = 0 := by
  intro a ha
  refine Classical.byContradiction fun h => ?_
  exact ker_nz hA _ w hw ⟨a, ha, h, Nat.lt_succ_self _⟩ a0 ha0 h0
/-- kernel vectors are proportional -/
theorem ker_prop {A : Nat → Nat → Int} {m : Nat} (hA : SkT A m) {x y : Nat → Int} (hx : kerV A m x) (hy : kerV A m y) {a0 : Nat} (ha0 : a0 < m) : ∀ a, a < m → y a0 * x a = x a0 * y a := by
  intro a ha
  have h0 : y a0 * x a0 - x a0 * y a0 = 0 := by rw [Int.mul_comm]; omega
  have : y a0 * x a - x a0 * y a = 0 := ker_zero hA (ker_lin hx hy (y a0) (x a0)) ha0 h0 a ha
  omega
/-! the Pfaffian -/
def pfS (A : Nat → Nat → Int) (h : Nat) (F : List Nat → Int) : List Nat → List Nat → Int → Int
  | _, [], _ => 0
  | pre, x :: t, s => s * F (pre ++ t) * A h x + pfS A h F (pre ++ [x]) t (-s)
def pfF (A : Nat → Nat → Int) : Nat → List Nat → Int
  | 0, _ => 1
  | _ + 1, [] => 1
  | f + 1, h :: t => pfS A h (pfF A f) [] t 1
def pfV (A : Nat → Nat → Int) (m i : Nat) : Int := (if i % 2 = 1 then -1 else 1) * pfF A m ((List.range m).eraseIdx i)
/-! the Pfaffian vector is in the kernel -/
section
variable {A : Nat → Nat → Int}
theorem pf_ker1 (hA : SkT A 1) : kerV A 1 (pfV A 1) := by
  intro k hk
  have h0 := hA.diag 0 (by omega)
  obtain rfl : k = 0 := by omega
  simp only [sumN, h0]
  simp
theorem pf_ker3 (hA : SkT A 3) : kerV A 3 (pfV A 3) := by
  intro k hk
  have d0 := hA.diag 0 (by omega)
  have d1 := hA.diag 1 (by omega)
  have d2 := hA.diag 2 (by omega)
  have s10 := hA.skew 1 0 (by omega) (by omega)
  have s20 := hA.skew 2 0 (by omega) (by omega)
  have s21 := hA.skew 2 1 (by omega) (by omega)
  have e0 : pfV A 3 0 = A 1 2 := by simp [pfV, pfF, pfS, List.range, List.range.loop]
  have e1 : pfV A 3 1 = - A 0 2 := by simp [pfV, pfF, pfS, List.range, List.range.loop]
  have e2 : pfV A 3 2 = A 0 1 := by simp [pfV, pfF, pfS, List.range, List.range.loop]
  obtain rfl | rfl | rfl : k = 0 ∨ k = 1 ∨ k = 2 := by omega
  all_goals
    simp only [sumN, e0, e1, e2]
    grind
set_option maxHeartbeats 4000000 in
theorem pf_ker5 (hA : SkT A 5) : kerV A 5 (pfV A 5) := by
  intro k hk
  have d0 := hA.diag 0 (by omega)
  have d1 := hA.diag 1 (by omega)
  have d2 := hA.diag 2 (by omega)
  have d3 := hA.diag 3 (by omega)
  have d4 := hA.diag 4 (by omega)
  have s10 := hA.skew 1 0 (by omega) (by omega)
  have s20 := hA.skew 2 0 (by omega) (by omega)
  have s21 := hA.skew 2 1 (by omega) (by omega)
  have s30 := hA.skew 3 0 (by omega) (by omega)
  have s31 := hA.skew 3 1 (by omega) (by omega)
  have s32 := hA.skew 3 2 (by omega) (by omega)
  have s40 := hA.skew 4 0 (by omega) (by omega)
  have s41 := hA.skew 4 1 (by omega) (by omega)
  have s42 := hA.skew 4 2 (by omega) (by omega)
  have s43 := hA.skew 4 3 (by omega) (by omega)
  have e0 : pfV A 5 0 = (A 1 2 * (A 3 4) - A 1 3 * (A 2 4) + A 1 4 * (A 2 3)) := by
    simp [pfV, pfF, pfS, List.range, List.range.loop]
    try grind
  have e1 : pfV A 5 1 = -(A 0 2 * (A 3 4) - A 0 3 * (A 2 4) + A 0 4 * (A 2 3)) := by
    simp [pfV, pfF, pfS, List.range, List.range.loop]
    try grind
  have e2 : pfV A 5 2 = (A 0 1 * (A 3 4) - A 0 3 * (A 1 4) + A 0 4 * (A 1 3)) := by
    simp [pfV, pfF, pfS, List.range, List.range.loop]
    try grind
  have e3 : pfV A 5 3 = -(A 0 1 * (A 2 4) - A 0 2 * (A 1 4) + A 0 4 * (A 1 2)) := by
    simp [pfV, pfF, pfS, List.range, List.range.loop]
    try grind
  have e4 : pfV A 5 4 = (A 0 1 * (A 2 3) - A 0 2 * (A 1 3) + A 0 3 * (A 1 2)) := by
    simp [pfV, pfF, pfS, List.range, List.range.loop]
    try grind
  obtain rfl | rfl | rfl | rfl | rfl : k = 0 ∨ k = 1 ∨ k = 2 ∨ k = 3 ∨ k = 4 := by omega
  all_goals
    simp only [sumN, e0, e1, e2, e3, e4]
    clear e0
    clear e1
    clear e2
    clear e3
    clear e4
    grind
set_option maxHeartbeats 4000000 in
theorem pf_ker7 (hA : SkT A 7) : kerV A 7 (pfV A 7) := by
  intro k hk
  have d0 := hA.diag 0 (by omega)
  have d1 := hA.diag 1 (by omega)
  have d2 := hA.diag 2 (by omega)
  have d3 := hA.diag 3 (by omega)
  have d4 := hA.diag 4 (by omega)
  have d5 := hA.diag 5 (by omega)
  have d6 := hA.diag 6 (by omega)
  have s10 := hA.skew 1 0 (by omega) (by omega)
  have s20 := hA.skew 2 0 (by omega) (by omega)
  have s21 := hA.skew 2 1 (by omega) (by omega)
  have s30 := hA.skew 3 0 (by omega) (by omega)
  have s31 := hA.skew 3 1 (by omega) (by omega)
  have s32 := hA.skew 3 2 (by omega) (by omega)
  have s40 := hA.skew 4 0 (by omega) (by omega)
  have s41 := hA.skew 4 1 (by omega) (by omega)
  have s42 := hA.skew 4 2 (by omega) (by omega)
  have s43 := hA.skew 4 3 (by omega) (by omega)
  have s50 := hA.skew 5 0 (by omega) (by omega)
  have s51 := hA.skew 5 1 (by omega) (by omega)
  have s52 := hA.skew 5 2 (by omega) (by omega)
  have s53 := hA.skew 5 3 (by omega) (by omega)
  have s54 := hA.skew 5 4 (by omega) (by omega)
  have s60 := hA.skew 6 0 (by omega) (by omega)
  have s61 := hA.skew 6 1 (by omega) (by omega)
  have s62 := hA.skew 6 2 (by omega) (by omega)
  have s63 := hA.skew 6 3 (by omega) (by omega)
  have s64 := hA.skew 6 4 (by omega) (by omega)
  have s65 := hA.skew 6 5 (by omega) (by omega)
  have e0 : pfV A 7 0 = (A 1 2 * (A 3 4 * (A 5 6) - A 3 5 * (A 4 6) + A 3 6 * (A 4 5)) - A 1 3 * (A 2 4 * (A 5 6) - A 2 5 * (A 4 6) + A 2 6 * (A 4 5)) + A 1 4 * (A 2 3 * (A 5 6) - A 2 5 * (A 3 6) + A 2 6 * (A 3 5)) - A 1 5 * (A 2 3 * (A 4 6) - A 2 4 * (A 3 6) + A 2 6 * (A 3 4)) + A 1 6 * (A 2 3 * (A 4 5) - A 2 4 * (A 3 5) + A 2 5 * (A 3 4))) := by
    simp [pfV, pfF, pfS, List.range, List.range.loop]
    try grind
  have e1 : pfV A 7 1 = -(A 0 2 * (A 3 4 * (A 5 6) - A 3 5 * (A 4 6) + A 3 6 * (A 4 5)) - A 0 3 * (A 2 4 * (A 5 6) - A 2 5 * (A 4 6) + A 2 6 * (A 4 5)) + A 0 4 * (A 2 3 * (A 5 6) - A 2 5 * (A 3 6) + A 2 6 * (A 3 5)) - A 0 5 * (A 2 3 * (A 4 6) - A 2 4 * (A 3 6) + A 2 6 * (A 3 4)) + A 0 6 * (A 2 3 * (A 4 5) - A 2 4 * (A 3 5) + A 2 5 * (A 3 4))) := by
    simp [pfV, pfF, pfS, List.range, List.range.loop]
    try grind
  have e2 : pfV A 7 2 = (A 0 1 * (A 3 4 * (A 5 6) - A 3 5 * (A 4 6) + A 3 6 * (A 4 5)) - A 0 3 * (A 1 4 * (A 5 6) - A 1 5 * (A 4 6) + A 1 6 * (A 4 5)) + A 0 4 * (A 1 3 * (A 5 6) - A 1 5 * (A 3 6) + A 1 6 * (A 3 5)) - A 0 5 * (A 1 3 * (A 4 6) - A 1 4 * (A 3 6) + A 1 6 * (A 3 4)) + A 0 6 * (A 1 3 * (A 4 5) - A 1 4 * (A 3 5) + A 1 5 * (A 3 4))) := by
    simp [pfV, pfF, pfS, List.range, List.range.loop]
    try grind
  have e3 : pfV A 7 3 = -(A 0 1 * (A 2 4 * (A 5 6) - A 2 5 * (A 4 6) + A 2 6 * (A 4 5)) - A 0 2 * (A 1 4 * (A 5 6) - A 1 5 * (A 4 6) + A 1 6 * (A 4 5)) + A 0 4 * (A 1 2 * (A 5 6) - A 1 5 * (A 2 6) + A 1 6 * (A 2 5)) - A 0 5 * (A 1 2 * (A 4 6) - A 1 4 * (A 2 6) + A 1 6 * (A 2 4)) + A 0 6 * (A 1 2 * (A 4 5) - A 1 4 * (A 2 5) + A 1 5 * (A 2 4))) := by
    simp [pfV, pfF, pfS, List.range, List.range.loop]
    try grind
  have e4 : pfV A 7 4 = (A 0 1 * (A 2 3 * (A 5 6) - A 2 5 * (A 3 6) + A 2 6 * (A 3 5)) - A 0 2 * (A 1 3 * (A 5 6) - A 1 5 * (A 3 6) + A 1 6 * (A 3 5)) + A 0 3 * (A 1 2 * (A 5 6) - A 1 5 * (A 2 6) + A 1 6 * (A 2 5)) - A 0 5 * (A 1 2 * (A 3 6) - A 1 3 * (A 2 6) + A 1 6 * (A 2 3)) + A 0 6 * (A 1 2 * (A 3 5) - A 1 3 * (A 2 5) + A 1 5 * (A 2 3))) := by
    simp [pfV, pfF, pfS, List.range, List.range.loop]
    try grind
  have e5 : pfV A 7 5 = -(A 0 1 * (A 2 3 * (A 4 6) - A 2 4 * (A 3 6) + A 2 6 * (A 3 4)) - A 0 2 * (A 1 3 * (A 4 6) - A 1 4 * (A 3 6) + A 1 6 * (A 3 4)) + A 0 3 * (A 1 2 * (A 4 6) - A 1 4 * (A 2 6) + A 1 6 * (A 2 4)) - A 0 4 * (A 1 2 * (A 3 6) - A 1 3 * (A 2 6) + A 1 6 * (A 2 3)) + A 0 6 * (A 1 2 * (A 3 4) - A 1 3 * (A 2 4) + A 1 4 * (A 2 3))) := by
    simp [pfV, pfF, pfS, List.range, List.range.loop]
    try grind
  have e6 : pfV A 7 6 = (A 0 1 * (A 2 3 * (A 4 5) - A 2 4 * (A 3 5) + A 2 5 * (A 3 4)) - A 0 2 * (A 1 3 * (A 4 5) - A 1 4 * (A 3 5) + A 1 5 * (A 3 4)) + A 0 3 * (A 1 2 * (A 4 5) - A 1 4 * (A 2 5) + A 1 5 * (A 2 4)) - A 0 4 * (A 1 2 * (A 3 5) - A 1 3 * (A 2 5) + A 1 5 * (A 2 3)) + A 0 5 * (A 1 2 * (A 3 4) - A 1 3 * (A 2 4) + A 1 4 * (A 2 3))) := by
    simp [pfV, pfF, pfS, List.range, List.range.loop]
    try grind
  obtain rfl | rfl | rfl | rfl | rfl | rfl | rfl : k = 0 ∨ k = 1 ∨ k = 2 ∨ k = 3 ∨ k = 4 ∨ k = 5 ∨ k = 6 := by omega
  all_goals
    simp only [sumN, e0, e1, e2, e3, e4, e5, e6]
    clear e0
    clear e1
    clear e2
    clear e3
    clear e4
    clear e5
    clear e6
    grind
end
end Go.Proofs.YtbkiedhaacapbaaGreat

namespace Go.Proofs.YtbkiedhaacapbaaGreat
open Go.RowKit

theorem snocInd {α : Type} {p : List α → Prop} (h0 : p []) (h1 : ∀ xs x, p xs → p (xs ++ [x])) (xs : List α) : p xs := by
  have h : ∀ ys : List α, p ys.reverse := by
    intro ys
    induction ys with
    | nil => exact h0
    | cons y ys ih => rw [List.reverse_cons]; exact h1 _ _ ih
  have := h xs.reverse
  rwa [List.reverse_reverse] at this
theorem gcd_step (x y : Nat) : Nat.gcd y (x % y) = Nat.gcd x y := by
  rw [Nat.gcd_comm y, ← Nat.gcd_rec, Nat.gcd_comm]


/-- the greatest common divisor of the numbers -/
def gcdL (xs : List Int) : Nat := xs.foldl (fun g x => Nat.gcd g x.toNat) 0
theorem gcdL_snoc (xs : List Int) (x : Int) : gcdL (xs ++ [x]) = Nat.gcd (gcdL xs) x.toNat := by simp [gcdL, List.foldl_append]
theorem gcdL_dvd (xs : List Int) : ∀ x ∈ xs, gcdL xs ∣ x.toNat := by
  refine snocInd (p := fun xs => ∀ x ∈ xs, gcdL xs ∣ x.toNat) (by simp) (fun xs y ih x hx => ?_) xs
  rw [gcdL_snoc]
  rw [List.mem_append, List.mem_singleton] at hx
  rcases hx with hx | rfl
  · exact Nat.dvd_trans (Nat.gcd_dvd_left _ _) (ih x hx)
  · exact Nat.gcd_dvd_right _ _
theorem gcdL_zero {xs : List Int} (h0 : ∀ x ∈ xs, 0 ≤ x) : gcdL xs = 0 ↔ ∀ x ∈ xs, x = 0 := by
  constructor
  · intro h x hx
    have h1 := gcdL_dvd xs x hx
    rw [h] at h1
    have h2 := Nat.eq_zero_of_zero_dvd h1
    have h3 := h0 x hx
    omega
  · refine snocInd (p := fun xs => (∀ x ∈ xs, x = 0) → gcdL xs = 0) (fun _ => rfl) (fun xs y ih h => ?_) xs
    rw [gcdL_snoc, ih (fun x hx => h x (by simp [hx])), h y (by simp)]
    rfl
def lowL (xs : List Int) : List Int := xs.map fun x => x / (gcdL xs : Int)
theorem gcd_le_bd {g n B : Nat} (hg : g ≤ B) (hn : n ≤ B) : Nat.gcd g n ≤ B := by
  rcases Nat.eq_zero_or_pos g with h | h
  · subst h; rw [Nat.gcd_zero_left]; exact hn
  · exact Nat.le_trans (Nat.gcd_le_left n h) hg
theorem gcdL_le {B : Nat} (xs : List Int) : (∀ x ∈ xs, x.toNat ≤ B) → gcdL xs ≤ B := by
  refine snocInd (p := fun xs => (∀ x ∈ xs, x.toNat ≤ B) → gcdL xs ≤ B) (fun _ => by simp [gcdL]) (fun xs y ih h => ?_) xs
  rw [gcdL_snoc]
  exact gcd_le_bd (ih fun x hx => h x (by simp [hx])) (h y (by simp))
theorem take_snoc {xs : List Int} {k : Nat} (hk : k < xs.length) : xs.take (k + 1) = xs.take k ++ [xs[k]?.getD 0] := by
  rw [List.take_succ_eq_append_getElem hk]
  simp [hk]

theorem map_take_succ' {xs : List Int} {k : Nat} (f : Int → Int) (hk : k < xs.length) : (xs.take (k + 1)).map f = (xs.take k).map f ++ [f (xs[k]?.getD 0)] := by
  rw [take_snoc hk, List.map_append]; rfl
set_option maxHeartbeats 1000000 in
theorem lowest_any (v : Value) (xs : List Int) (w : World) (h : Rd w v xs) (h0 : ∀ x ∈ xs, 0 ≤ x ∧ x ≤ 4611686018427387904) (hne : gcdL xs ≠ 0) (hlen : xs.length ≤ 1000000) :
    Calls Tryz.prog 75 #[v] w fun e w' => ∃ v', e = .returned v' ∧ Own w' w.heap.size v' (lowL xs) ∧ (Below w.heap.size w w' ∧ (xs ≠ [] → v' ≠ .slice none 0 0)) := by
  have HR := Lib.hid h
  obtain ⟨A, c, rfl, hl1, hm1, hc1⟩ := h
  unfold maxLen at hm1
  have HB0 := Lib.hid h0
  generalize hn : xs.length = n at *
  have H1 := Lib.hid hn
  have H3 := Lib.hid hc1
  clear hn hc1 h0
  go_enter Tryz.func75, Tryz.ntmps75
  go_wp2
  go_loopw [3, 11] (fun s i wr => ∃ k q : Nat, k ≤ n ∧ i = .int .i64 k ∧ s = .int .i64 (gcdL (xs.take k)) ∧ wr = w.drewN q) (fun _ i _ => n - (intOf i).toNat)
  case atStart => exact ⟨0, 0, by omega, rfl, rfl, rfl⟩
  case round =>
    obtain ⟨k, q, hk, rfl, rfl, rfl⟩ := hrel
    by_cases hlt : k < n
    · obtain ⟨b, off, rfl, hbb, hx⟩ := H3.out (by omega)
      have hxk := hx k hlt
      have hbd := HB0.out (xs[k]?.getD 0) (by rw [List.getElem?_eq_getElem (by rw [H1.out]; exact hlt)]; exact List.getElem_mem _)
      have hgb : gcdL (xs.take k) ≤ 4611686018427387904 := gcdL_le _ fun x hx => by have := HB0.out x (List.mem_of_mem_take hx); omega
      have hst := take_snoc (by rw [H1.out]; exact hlt : k < xs.length)
      have hgs : gcdL (xs.take (k + 1)) = Nat.gcd (gcdL (xs.take k)) (xs[k]?.getD 0).toNat := by rw [hst, gcdL_snoc]
      have HG := Lib.hid hgs
      clear hx hst hgs
      generalize hg : gcdL (xs.take k) = g at *
      have HGG := Lib.hid hg
      clear hg
      obtain ⟨y, hy⟩ : ∃ y : Nat, xs[k]?.getD 0 = (y : Int) := ⟨(xs[k]?.getD 0).toNat, by omega⟩
      have hxk' : w.cell? ⟨b, off + k, none⟩ = some (.int .i64 (y : Int)) := by rw [hxk, List.getD_eq_getElem?_getD, hy]
      rw [hy] at hbd
      have HG' : Hid (gcdL (xs.take (k + 1)) = Nat.gcd g y) := by have := HG.out; rw [hy] at this; exact this
      clear hxk hy HG
      go_wp2
      go_loopw [3, 5] (fun s t wr => ∃ x z q : Nat, s = .int .i64 x ∧ t = .int .i64 z ∧ x ≤ 4611686018427387904 ∧ z ≤ 4611686018427387904 ∧ wr = w.drewN q ∧ Hid (Nat.gcd x z = Nat.gcd g y)) (fun _ t _ => (intOf t).toNat)
      case atStart => exact ⟨g, y, q, rfl, rfl, hgb, by omega, rfl, rfl⟩
      case round =>
        obtain ⟨x, z, q', rfl, rfl, hx, hz, rfl, HE⟩ := hrel
        by_cases h0 : 0 < z
        · have hz1 : (1 : Int) ≤ (z : Int) := by omega
          have hzne : ((z : Int) != 0) = true := by simp; omega
          have hlt' := Nat.mod_lt x h0
          go_wp2
          go_region
          all_goals
            go_wp2
            go_roundw
            case rel => exact ⟨z, x % z, q' + 1, rfl, by go_num, hz, by omega, rfl, (gcd_step x z).trans HE.out⟩
            case measure => simp [intOf]; omega
        · obtain rfl : z = 0 := by omega
          go_wp2
          go_roundw
          case rel =>
            refine ⟨k + 1, q', by omega, by go_num, ?_, rfl⟩
            have := HE.out
            rw [Nat.gcd_zero_right] at this
            rw [HG'.out, this]
          case measure => simp [intOf]; omega
    · obtain rfl : k = n := by omega
      have ht : xs.take k = xs := List.take_of_length_le (by rw [H1.out]; exact Nat.le_refl _)
      have hg1 : 1 ≤ gcdL xs := by omega
      have hgb : gcdL xs ≤ 4611686018427387904 := gcdL_le _ fun x hx => by have := HB0.out x hx; omega
      rw [ht]
      have HGX := Lib.hid (rfl : gcdL xs = gcdL xs)
      have HLW : Hid (lowL xs = xs.map fun x => x / (gcdL xs : Int)) := rfl
      clear hne
      generalize hg : gcdL xs = g at *
      clear hg HGX
      go_wp2
      go_loopw [6, 24] (fun s i wr => ∃ j : Nat, j ≤ k ∧ i = .int .i64 j ∧ Own wr w.heap.size s ((xs.take j).map fun x => x / (g : Int)) ∧ (0 < j → s ≠ .slice none 0 0) ∧ Below w.heap.size w wr) (fun _ i _ => k - (intOf i).toNat)
      case atStart => exact ⟨0, by omega, rfl, Own.nil_ _ _, fun h => absurd h (by omega), below_drewN (Below.refl _ _) _⟩
      case round =>
        obtain ⟨j, hj, rfl, hown, hnn, hb⟩ := hrel
        by_cases hlt' : j < k
        · obtain ⟨b, off, rfl, hbb, hx⟩ := H3.out (by omega)
          have hxj : wr.cell? ⟨b, off + j, none⟩ = some (.int .i64 (xs.getD j 0)) := (hb.cell (by exact hbb)).trans (hx j hlt')
          have hbd := HB0.out (xs[j]?.getD 0) (by rw [List.getElem?_eq_getElem (by rw [H1.out]; exact hlt')]; exact List.getElem_mem _)
          have hl2 : ((xs.take j).map fun x => x / (g : Int)).length ≤ 1000000 := by rw [List.length_map, List.length_take]; omega
          have hbs := hb.size
          have HO := Lib.hid hown
          have HB := Lib.hid hb
          have HNN := Lib.hid hnn
          clear hx hown hb hnn
          go_wp2_with (at_builtin; refine wp_append1 _ rfl (.tmp 28) (.tmp 32) rfl w.heap.size _ _ _ rfl HO.out rfl (by omega) (by omega) ?_; intro v' w1 hown1 hg1)
          have hb1 := below_append HB.out hg1 HO.out (Nat.le_refl _) hbs
          go_roundw
          case rel =>
            refine ⟨j + 1, by omega, by go_num, ?_, fun _ => ?_, hb1⟩
            · rw [map_take_succ' _ (by rw [H1.out]; exact hlt')]
              exact hown1
            · rintro rfl
              rcases hown1.2 with ⟨_, h2⟩ | ⟨_, _, _, h2, _⟩
              · simp at h2
              · cases h2
          case measure => simp [intOf]; omega
        · obtain rfl : j = k := by omega
          go_wp2
          go_ret
          refine ⟨_, rfl, ?_, hb, fun hne => hnn ?_⟩
          · rw [HLW.out]
            rwa [ht] at hown
          · have : xs.length ≠ 0 := fun h => hne (List.eq_nil_of_length_eq_zero h)
            rw [H1.out] at this
            omega
end Go.Proofs.YtbkiedhaacapbaaGreat

namespace Go.Proofs.YtbkiedhaacapbaaGreat
set_option maxRecDepth 100000
def pfBd : Nat → Nat
  | 0 => 1
  | 1 => 1
  | n + 2 => (n + 1) * pfBd n
theorem pfS_facts (A : Nat → Nat → Int) (h : Nat) (F : List Nat → Int) (B : Nat) : ∀ (t pre : List Nat) (s : Int), (s = 1 ∨ s = -1) → (∀ x ∈ t, A h x = 1 ∨ A h x = -1) →
    (∀ l1 x l2, pre ++ t = l1 ++ x :: l2 → F (l1 ++ l2) % 2 = 1 ∧ -(B : Int) ≤ F (l1 ++ l2) ∧ F (l1 ++ l2) ≤ B) →
    pfS A h F pre t s % 2 = (t.length : Int) % 2 ∧ -((t.length * B : Nat) : Int) ≤ pfS A h F pre t s ∧ pfS A h F pre t s ≤ ((t.length * B : Nat) : Int) := by
  intro t
  induction t with
  | nil => intro pre s _ _ _; simp [pfS]
  | cons x t ih =>
    intro pre s hs hA hF
    obtain ⟨h1, h2, h3⟩ := ih (pre ++ [x]) (-s) (by omega) (fun y hy => hA y (by simp [hy])) (fun l1 y l2 e => hF l1 y l2 (by simpa using e))
    obtain ⟨f1, f2, f3⟩ := hF pre x t rfl
    have ha := hA x (by simp)
    rw [pfS, List.length_cons, Nat.succ_mul]
    generalize pfS A h F (pre ++ [x]) t (-s) = Z at *
    generalize F (pre ++ t) = Y at *
    generalize hLB : t.length * B = LB at *
    generalize t.length = L at *
    rcases hs with rfl | rfl <;> rcases ha with ha | ha <;> rw [ha] <;> push_cast <;> omega
theorem pfF_facts {A : Nat → Nat → Int} {m : Nat} (hA : SkT A m) : ∀ (f : Nat) (l : List Nat), l.length ≤ f → l.length % 2 = 0 → l.Nodup → (∀ x ∈ l, x < m) →
    pfF A f l % 2 = 1 ∧ -(pfBd l.length : Int) ≤ pfF A f l ∧ pfF A f l ≤ pfBd l.length := by
  intro f
  induction f using Nat.strongRecOn with
  | _ f ih =>
    intro l hl hev hnd hm
    match f, l, hl, hev, hnd, hm with
    | 0, [], _, _, _, _ => simp [pfF, pfBd]
    | 0, _ :: _, hl, _, _, _ => simp at hl
    | f + 1, [], _, _, _, _ => simp [pfF, pfBd]
    | f + 1, [h], _, hev, _, _ => simp at hev
    | f + 1, h :: x :: t, hl, hev, hnd, hm =>
      have hnd' := List.nodup_cons.1 hnd
      have := pfS_facts A h (pfF A f) (pfBd t.length) (x :: t) [] 1 (.inl rfl) (fun y hy => by
        refine hA.one h y (hm h (by simp)) (hm y (List.mem_cons_of_mem _ hy)) fun e => ?_
        subst e; exact hnd'.1 hy) (fun l1 y l2 e => by
        have e : x :: t = l1 ++ y :: l2 := by simpa using e
        have hlen : (l1 ++ l2).length = t.length := by
          have := congrArg List.length e
          simp at this ⊢; omega
        have hsub : (l1 ++ l2).Sublist (x :: t) := by rw [e]; exact (List.Sublist.refl l1).append (List.sublist_cons_self y l2)
        have := ih f (by omega) (l1 ++ l2) (by rw [hlen]; simp at hl; omega) (by rw [hlen]; simp at hev; omega) (hsub.nodup hnd'.2) (fun z hz => hm z (List.mem_cons_of_mem _ (hsub.subset hz)))
        rw [hlen] at this
        exact this)
      simp only [pfF]
      simp only [List.length_cons] at this hev ⊢
      refine ⟨by omega, ?_⟩
      exact this.2
theorem pfV_facts {A : Nat → Nat → Int} {m : Nat} (hA : SkT A m) (hm : m % 2 = 1) (h7 : m ≤ 7) {i : Nat} (hi : i < m) : pfV A m i % 2 = 1 ∧ -15 ≤ pfV A m i ∧ pfV A m i ≤ 15 := by
  have hsub : ((List.range m).eraseIdx i).Sublist (List.range m) := List.eraseIdx_sublist _ _
  have hlen : ((List.range m).eraseIdx i).length = m - 1 := by rw [List.length_eraseIdx_of_lt (by simpa using hi)]; simp
  have h := pfF_facts hA m ((List.range m).eraseIdx i) (by omega) (by omega) (hsub.nodup List.nodup_range) (fun x hx => by simpa using hsub.subset hx)
  rw [hlen] at h
  have hb : pfBd (m - 1) ≤ 15 := by
    have : m = 1 ∨ m = 3 ∨ m = 5 ∨ m = 7 := by omega
    rcases this with rfl | rfl | rfl | rfl <;> decide
  unfold pfV
  split <;> omega
theorem pf_ker {A : Nat → Nat → Int} {m : Nat} (hA : SkT A m) (hm : m % 2 = 1) (h7 : m ≤ 7) : kerV A m (pfV A m) := by
  have : m = 1 ∨ m = 3 ∨ m = 5 ∨ m = 7 := by omega
  rcases this with rfl | rfl | rfl | rfl
  · exact pf_ker1 hA
  · exact pf_ker3 hA
  · exact pf_ker5 hA
  · exact pf_ker7 hA
/-! positive, without common divisor -/
theorem gcdL_great {xs : List Int} {d : Nat} : (∀ x ∈ xs, d ∣ x.toNat) → d ∣ gcdL xs := by
  unfold gcdL
  have : ∀ (xs : List Int) (g : Nat), d ∣ g → (∀ x ∈ xs, d ∣ x.toNat) → d ∣ xs.foldl (fun g x => Nat.gcd g x.toNat) g := by
    intro xs
    induction xs with
    | nil => intro g h _; exact h
    | cons x xs ih => intro g h hx; exact ih _ (Nat.dvd_gcd h (hx x (by simp))) fun y hy => hx y (by simp [hy])
  exact this xs 0 (Nat.dvd_zero _)
theorem gcdL_mul (xs : List Int) (c : Nat) : gcdL (xs.map fun x => (c : Int) * x) = c * gcdL xs := by
  unfold gcdL
  have : ∀ (xs : List Int) (g : Nat), (xs.map fun x => (c : Int) * x).foldl (fun g x => Nat.gcd g x.toNat) (c * g) = c * xs.foldl (fun g x => Nat.gcd g x.toNat) g := by
    intro xs
    induction xs with
    | nil => intro g; rfl
    | cons x xs ih =>
      intro g
      rw [List.map_cons, List.foldl_cons, List.foldl_cons, ← ih]
      congr 1
      rw [show ((c : Int) * x).toNat = c * x.toNat by
        rcases Int.le_total 0 x with h | h
        · obtain ⟨y, rfl⟩ := Int.eq_ofNat_of_zero_le h
          rw [← Int.natCast_mul]; rfl
        · have h1 : (c : Int) * x ≤ 0 := Int.mul_nonpos_of_nonneg_of_nonpos (by omega) h
          rw [Int.toNat_of_nonpos h1, Int.toNat_of_nonpos h, Nat.mul_zero], Nat.gcd_mul_left]
  simpa using this xs 0
theorem gcdL_pos {xs : List Int} (h : ∃ x ∈ xs, 0 < x) : 0 < gcdL xs := by
  obtain ⟨x, hx, h0⟩ := h
  rcases Nat.eq_zero_or_pos (gcdL xs) with h1 | h1
  · have := gcdL_dvd xs x hx
    rw [h1] at this
    have := Nat.eq_zero_of_zero_dvd this
    omega
  · exact h1
/-- proportional rows come down to the same lowest row -/
theorem low_eq {xs ys : List Int} {c d : Nat} (hc : 0 < c) (hd : 0 < d) (he : xs.map (fun x => (c : Int) * x) = ys.map fun x => (d : Int) * x) : lowL xs = lowL ys := by
  have hlen : xs.length = ys.length := by have := congrArg List.length he; simpa using this
  have hgg : c * gcdL xs = d * gcdL ys := by rw [← gcdL_mul, ← gcdL_mul, he]
  unfold lowL
  refine List.ext_getElem (by simp [hlen]) fun i h1 h2 => ?_
  simp only [List.length_map] at h1 h2
  rw [List.getElem_map, List.getElem_map]
  have hi : (c : Int) * xs[i] = (d : Int) * ys[i] := by
    have := congrArg (fun l => l.getD i 0) he
    simpa [h1, h2] using this
  have hG : (c : Int) * (gcdL xs : Int) = (d : Int) * (gcdL ys : Int) := by exact_mod_cast hgg
  have e1 : xs[i] / (gcdL xs : Int) = ((c : Int) * xs[i]) / ((c : Int) * (gcdL xs : Int)) := (Int.mul_ediv_mul_of_pos _ _ (by omega)).symm
  have e2 : ys[i] / (gcdL ys : Int) = ((d : Int) * ys[i]) / ((d : Int) * (gcdL ys : Int)) := (Int.mul_ediv_mul_of_pos _ _ (by omega)).symm
  rw [e1, e2, hi, hG]
end Go.Proofs.YtbkiedhaacapbaaGreat

