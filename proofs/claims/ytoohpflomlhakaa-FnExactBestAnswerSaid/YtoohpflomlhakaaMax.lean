/- slices.Max over ints that are there. -/
import Derived.Test.YtoohpflomlhakaaBase
namespace Go.Proofs.Ytoohpflomlhakaa
open Go.RowKit

def maxTo (xs : List Int) : Nat → Int
  | 0 => xs[0]?.getD 0
  | k + 1 => max (maxTo xs k) (xs[k + 1]?.getD 0)
/-- the greatest of the numbers -/
def maxI (xs : List Int) : Int := maxTo xs (xs.length - 1)
theorem maxTo_bd {xs : List Int} {lo hi : Int} (h : ∀ k : Nat, lo ≤ xs[k]?.getD 0 ∧ xs[k]?.getD 0 ≤ hi) (k : Nat) : lo ≤ maxTo xs k ∧ maxTo xs k ≤ hi := by
  induction k with
  | zero => exact h 0
  | succ k ih => have := h (k + 1); unfold maxTo; omega
theorem maxTo_ge (xs : List Int) (k : Nat) : ∀ j, j ≤ k → xs[j]?.getD 0 ≤ maxTo xs k := by
  induction k with
  | zero => intro j hj; obtain rfl : j = 0 := by omega
            exact Int.le_refl _
  | succ k ih =>
    intro j hj
    unfold maxTo
    by_cases h : j = k + 1
    · subst h; omega
    · have := ih j (by omega); omega
theorem maxTo_mem (xs : List Int) (k : Nat) : ∃ j, j ≤ k ∧ maxTo xs k = xs[j]?.getD 0 := by
  induction k with
  | zero => exact ⟨0, Nat.le_refl _, rfl⟩
  | succ k ih =>
    obtain ⟨j, hj, e⟩ := ih
    unfold maxTo
    by_cases h : maxTo xs k ≤ xs[k + 1]?.getD 0
    · exact ⟨k + 1, Nat.le_refl _, by omega⟩
    · exact ⟨j, by omega, by omega⟩
theorem maxI_pos {xs : List Int} (h0 : ∀ x ∈ xs, 0 ≤ x) (hne : 0 < xs.length) : 0 < maxI xs ↔ ∃ x ∈ xs, x ≠ 0 := by
  constructor
  · intro h
    obtain ⟨j, hj, e⟩ := maxTo_mem xs (xs.length - 1)
    have hjl : j < xs.length := by omega
    refine ⟨xs[j], List.getElem_mem hjl, ?_⟩
    unfold maxI at h
    rw [e, List.getElem?_eq_getElem hjl] at h
    simp at h
    omega
  · rintro ⟨x, hx, hx0⟩
    obtain ⟨j, hj, rfl⟩ := List.mem_iff_getElem.1 hx
    have h1 := maxTo_ge xs (xs.length - 1) j (by omega)
    rw [List.getElem?_eq_getElem hj] at h1
    have h2 := h0 _ (List.getElem_mem hj)
    simp at h1
    unfold maxI
    omega

set_option maxHeartbeats 400000 in
theorem max_any (v : Value) (xs : List Int) (w : World) (h : Rd w v xs) (hne : 0 < xs.length) :
    Calls Try.prog 51 #[v] w fun e w' => e = .returned (.int .i64 (maxI xs)) ∧ w = w' := by
  obtain ⟨A, c, rfl, hl1, hm1, hc1⟩ := h
  unfold maxLen at hm1
  obtain ⟨b, off, rfl, hb, hx⟩ := hc1 hne
  generalize hn : xs.length = n at *
  have H1 := Lib.hid hn
  have h0 := hx 0 (by omega)
  simp only [Nat.add_zero] at h0
  have HX := Lib.hid hx
  have hlt1 : ¬ ((n : Int) < 1) := by omega
  clear hn hc1 hx
  go_enter Try.func51, Try.ntmps51
  go_wp2
  go_loop [3, 4] (fun s i => ∃ k : Nat, k + 1 ≤ n ∧ i = .int .i64 ((k + 1 : Nat) : Int) ∧ s = .int .i64 (maxTo xs k)) (fun _ i => n - (intOf i).toNat)
  case atStart => exact ⟨0, by omega, rfl, by simp [maxTo]⟩
  case round =>
    obtain ⟨k, hk, rfl, rfl⟩ := hrel
    by_cases hlt : k + 1 < n
    · have hxk := HX.out (k + 1) hlt
      have hms : maxTo xs (k + 1) = max (maxTo xs k) (xs[k + 1]?.getD 0) := rfl
      have HM := Lib.hid hms
      clear hms
      generalize maxTo xs k = m at *
      go_wp2
      go_round
      case rel => exact ⟨k + 1, by omega, by go_num, by rw [HM.out]; congr 1; split <;> omega⟩
      case measure => simp [intOf]; omega
    · have hge : ¬ (((k + 1 : Nat) : Int) < (n : Int)) := by omega
      go_wp2
      go_ret
      refine ⟨ret_int ?_, rfl⟩
      have := H1.out
      unfold maxI
      rw [this, show n - 1 = k from by omega]
end Go.Proofs.Ytoohpflomlhakaa
