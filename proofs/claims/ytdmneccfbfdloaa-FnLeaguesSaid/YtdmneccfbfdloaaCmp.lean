/- cmp.Compare, cmp.Or over ints. -/
import Derived.Test.YtdmneccfbfdloaaSl
namespace Go.Proofs.Ytdmneccfbfdloaa
open Go.RowKit

def cmpI (x y : Int) : Int := if x < y then -1 else if y < x then 1 else 0
theorem cmpI_bd (x y : Int) : -1 ≤ cmpI x y ∧ cmpI x y ≤ 1 := by unfold cmpI; repeat' split <;> omega
set_option maxHeartbeats 400000 in
theorem isNaN_any (x : Int) (w : World) : Calls Try.prog 58 #[.int .i64 x] w fun e w' => e = .returned (.bool false) ∧ w = w' := by
  have h : (x != x) = false := by simp
  go_enter Try.func58, Try.ntmps58
  go_wp2
  go_ret
  exact ⟨rfl, rfl⟩
set_option maxHeartbeats 400000 in
theorem compare_any (x y : Int) (w : World) : Calls Try.prog 37 #[.int .i64 x, .int .i64 y] w fun e w' => e = .returned (.int .i64 (cmpI x y)) ∧ w = w' := by
  go_enter Try.func37, Try.ntmps37
  go_wp2_with (go_at_call 58; refine (isNaN_any _ _).mono ?_; rintro e w1 ⟨rfl, rfl⟩)
  all_goals
    go_ret
    refine ⟨ret_int ?_, rfl⟩
    unfold cmpI
    (repeat' split) <;> first | rfl | omega
/-- the first number that is not 0 -/
def orI (xs : List Int) : Int := (xs.find? fun x => !(x == 0)).getD 0
theorem orI_hit {xs : List Int} {k : Nat} (hk : k < xs.length) (hx : (xs[k]?.getD 0 != 0) = true) (h : ∀ x ∈ xs.take k, x = 0) : orI xs = xs[k]?.getD 0 := by
  have e : xs[k]?.getD 0 = xs[k] := by simp [hk]
  rw [e] at hx ⊢
  unfold orI
  have : xs.find? (fun x => !(x == 0)) = some xs[k] := by
    rw [List.find?_eq_some_iff_getElem]
    refine ⟨by simpa using hx, k, hk, rfl, fun j hj => ?_⟩
    have := h xs[j] (by
      rw [List.mem_iff_getElem?]
      exact ⟨j, by rw [List.getElem?_take, if_pos hj, List.getElem?_eq_getElem]⟩)
    simp [this]
  rw [this]; rfl
theorem orI_miss {xs : List Int} (h : ∀ x ∈ xs, x = 0) : orI xs = 0 := by
  unfold orI
  have : xs.find? (fun x => !(x == 0)) = none := by
    rw [List.find?_eq_none]
    intro x hx
    simp [h x hx]
  rw [this]; rfl
theorem zeros_step {xs : List Int} {k : Nat} (hk : k < xs.length) (hx : (xs[k]?.getD 0 != 0) = false) (h : ∀ x ∈ xs.take k, x = 0) : ∀ x ∈ xs.take (k + 1), x = 0 := by
  have e : xs[k]?.getD 0 = xs[k] := by simp [hk]
  rw [e] at hx
  rw [List.take_succ_eq_append_getElem hk]
  intro x hx'
  rw [List.mem_append, List.mem_singleton] at hx'
  rcases hx' with hx' | rfl
  · exact h x hx'
  · simpa using hx
set_option maxHeartbeats 400000 in
theorem cmpOr_any (v : Value) (xs : List Int) (w : World) (h : Rd w v xs) :
    Calls Try.prog 48 #[v] w fun e w' => e = .returned (.int .i64 (orI xs)) ∧ w = w' := by
  obtain ⟨A, c, rfl, hl1, hm1, hc1⟩ := h
  unfold maxLen at hm1
  generalize hn : xs.length = n at *
  have H1 := Lib.hid hn
  have H3 := Lib.hid hc1
  clear hn hc1
  go_enter Try.func48, Try.ntmps48
  go_wp2
  go_loop [8] (fun i => ∃ k : Nat, k ≤ n ∧ i = .int .i64 k ∧ Hid (∀ x ∈ xs.take k, x = 0)) (fun i => n - (intOf i).toNat)
  case atStart => exact ⟨0, Nat.zero_le _, rfl, by simp [Hid]⟩
  case round =>
    obtain ⟨k, hk, rfl, HN⟩ := hrel
    by_cases hlt : k < n
    · obtain ⟨b, off, rfl, hb, hx⟩ := H3.out (by omega)
      have hxk := hx k hlt
      clear hx
      go_wp2
      · have h : (xs[k]?.getD 0 != 0) = true := by assumption
        go_ret
        exact ⟨ret_int (orI_hit (by rw [H1.out]; exact hlt) h HN.out).symm, rfl⟩
      · have h : (xs[k]?.getD 0 != 0) = false := by assumption
        go_round
        case rel => exact ⟨k + 1, by omega, by go_num, zeros_step (by rw [H1.out]; exact hlt) h HN.out⟩
        case measure => simp [intOf]; omega
    · obtain rfl : k = n := by omega
      go_wp2
      go_ret
      exact ⟨ret_int (orI_miss (by have := HN.out; rwa [List.take_of_length_le (by rw [H1.out]; exact Nat.le_refl _)] at this)).symm, rfl⟩
end Go.Proofs.Ytdmneccfbfdloaa
