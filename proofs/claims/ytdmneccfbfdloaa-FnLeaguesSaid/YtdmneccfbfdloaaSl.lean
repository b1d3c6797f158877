/- Small callees: within, l01In, slices.Index, slices.Contains over ints. -/
import Derived.Test.YtdmneccfbfdloaaBase
namespace Go.Proofs.Ytdmneccfbfdloaa
open Go.RowKit

def inB (n lo hi : Int) : Bool := decide (lo ≤ n) && decide (n ≤ hi)
theorem inB_true {n lo hi : Int} : inB n lo hi = true ↔ lo ≤ n ∧ n ≤ hi := by simp [inB]
theorem inB_false {n lo hi : Int} : inB n lo hi = false ↔ ¬ (lo ≤ n ∧ n ≤ hi) := by rw [← inB_true]; simp

set_option maxHeartbeats 400000 in
theorem l01In_any (n lo hi : Int) (w : World) : Calls Try.prog 38 #[.int .i64 n, .int .i64 lo, .int .i64 hi] w fun e w' => e = .returned (.bool (inB n lo hi)) ∧ w = w' := by
  by_cases h : lo ≤ n
  · have hd : decide (lo ≤ n) = true := by simpa using h
    go_enter Try.func38, Try.ntmps38
    go_wp2
    go_ret
    exact ⟨ret_bool (by simp [inB, h]), rfl⟩
  · have hd : decide (lo ≤ n) = false := by simpa using h
    go_enter Try.func38, Try.ntmps38
    go_wp2
    go_ret
    exact ⟨ret_bool (by simp [inB, hd]), rfl⟩
set_option maxHeartbeats 400000 in
theorem within_any (n lo hi : Int) (w : World) : Calls Try.prog 39 #[.int .i64 n, .int .i64 lo, .int .i64 hi] w fun e w' => e = .returned (.bool (inB n lo hi)) ∧ w = w' := by
  by_cases h : lo ≤ n
  · have hd : decide (lo ≤ n) = true := by simpa using h
    go_enter Try.func39, Try.ntmps39
    go_wp2
    go_ret
    exact ⟨ret_bool (by simp [inB, h]), rfl⟩
  · have hd : decide (lo ≤ n) = false := by simpa using h
    go_enter Try.func39, Try.ntmps39
    go_wp2
    go_ret
    exact ⟨ret_bool (by simp [inB, hd]), rfl⟩

/-- slices.Index over ints -/
def indexI (xs : List Int) (x : Int) : Int := if x ∈ xs then (xs.idxOf x : Int) else -1
theorem indexI_hit {xs : List Int} {x : Int} {k : Nat} (hk : k < xs.length) (hx : x = xs[k]?.getD 0) (hn : x ∉ xs.take k) : indexI xs x = k := by
  have e : xs[k]?.getD 0 = xs[k] := by simp [hk]
  have hm : x ∈ xs := by rw [hx, e]; exact List.getElem_mem hk
  have hd : xs = xs.take k ++ xs.drop k := (List.take_append_drop k xs).symm
  have h2 : xs.drop k = x :: xs.drop (k + 1) := by rw [List.drop_eq_getElem_cons hk, hx, e]
  have hl : (xs.take k).length = k := by rw [List.length_take]; omega
  unfold indexI
  rw [if_pos hm]
  have : xs.idxOf x = k := by
    rw [hd, h2, List.idxOf_append, if_neg hn, List.idxOf_cons_self, hl, Nat.zero_add]
  rw [this]
theorem indexI_miss {xs : List Int} {x : Int} (hn : x ∉ xs) : indexI xs x = -1 := by unfold indexI; rw [if_neg hn]
theorem notMem_take_succ {xs : List Int} {x : Int} {k : Nat} (hk : k < xs.length) (hx : ¬ x = xs[k]?.getD 0) (hn : x ∉ xs.take k) : x ∉ xs.take (k + 1) := by
  rw [List.take_succ_eq_append_getElem hk]
  have e : xs[k]?.getD 0 = xs[k] := by simp [hk]
  rw [e] at hx
  rw [List.mem_append, List.mem_singleton]
  exact fun h => h.elim hn hx

set_option maxHeartbeats 400000 in
theorem index_any (v : Value) (xs : List Int) (x : Int) (w : World) (h : Rd w v xs) :
    Calls Try.prog 82 #[v, .int .i64 x] w fun e w' => e = .returned (.int .i64 (indexI xs x)) ∧ w = w' := by
  obtain ⟨A, c, rfl, hl1, hm1, hc1⟩ := h
  unfold maxLen at hm1
  generalize hn : xs.length = n at *
  have H1 := Lib.hid hn
  have H3 := Lib.hid hc1
  clear hn hc1
  go_enter Try.func82, Try.ntmps82
  go_wp2
  go_loop [8] (fun i => ∃ k : Nat, k ≤ n ∧ i = .int .i64 k ∧ Hid (x ∉ xs.take k)) (fun i => n - (intOf i).toNat)
  case atStart => exact ⟨0, Nat.zero_le _, rfl, by simp [Hid]⟩
  case round =>
    obtain ⟨k, hk, rfl, HN⟩ := hrel
    by_cases hlt : k < n
    · obtain ⟨b, off, rfl, hb, hx⟩ := H3.out (by omega)
      have hxk := hx k hlt
      clear hx
      go_wp2
      · have h : (x == xs[k]?.getD 0) = true := by assumption
        go_ret
        exact ⟨ret_int (indexI_hit (by have := H1.out; omega) (by simpa using h) HN.out).symm, rfl⟩
      · have h : (x == xs[k]?.getD 0) = false := by assumption
        go_round
        case rel => exact ⟨k + 1, by omega, by go_num, notMem_take_succ (by have := H1.out; omega) (by simpa using h) HN.out⟩
        case measure => simp [intOf]; omega
    · obtain rfl : k = n := by omega
      go_wp2
      go_ret
      exact ⟨ret_int (indexI_miss (by have := HN.out; rwa [List.take_of_length_le (by rw [H1.out]; exact Nat.le_refl _)] at this)).symm, rfl⟩

/-- slices.Contains over ints -/
def containsI (xs : List Int) (x : Int) : Bool := decide (x ∈ xs)
theorem containsI_index (xs : List Int) (x : Int) : decide (0 ≤ indexI xs x) = containsI xs x := by
  unfold containsI indexI
  by_cases h : x ∈ xs <;> simp [h]
set_option maxHeartbeats 400000 in
theorem contains_any (v : Value) (xs : List Int) (x : Int) (w : World) (h : Rd w v xs) :
    Calls Try.prog 78 #[v, .int .i64 x] w fun e w' => e = .returned (.bool (containsI xs x)) ∧ w = w' := by
  go_enter Try.func78, Try.ntmps78
  go_wp2_with (go_at_call 82; refine (index_any _ _ _ _ h).mono ?_; rintro e w1 ⟨rfl, rfl⟩)
  go_ret
  exact ⟨ret_bool (containsI_index xs x), rfl⟩
end Go.Proofs.Ytdmneccfbfdloaa
