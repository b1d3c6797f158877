/- Small callees: within, l01In, slices.Index, slices.Contains over ints. -/
import Derived.Test.YtceeplhkokajhaaBase
namespace Go.Proofs.Ytceeplhkokajhaa
open Go.RowKit

def inB (n lo hi : Int) : Bool := decide (lo ≤ n) && decide (n ≤ hi)
theorem inB_true {n lo hi : Int} : inB n lo hi = true ↔ lo ≤ n ∧ n ≤ hi := by simp [inB]
theorem inB_false {n lo hi : Int} : inB n lo hi = false ↔ ¬ (lo ≤ n ∧ n ≤ hi) := by rw [← inB_true]; simp

set_option maxHeartbeats 400000 in
theorem l01In_any (n lo hi : Int) (w : World) : Calls Try.prog 85 #[.int .i64 n, .int .i64 lo, .int .i64 hi] w fun e w' => e = .returned (.bool (inB n lo hi)) ∧ w = w' := by
  by_cases h : lo ≤ n
  · have hd : decide (lo ≤ n) = true := by simpa using h
    go_enter Try.func85, Try.ntmps85
    go_wp2
    go_ret
    exact ⟨ret_bool (by simp [inB, h]), rfl⟩
  · have hd : decide (lo ≤ n) = false := by simpa using h
    go_enter Try.func85, Try.ntmps85
    go_wp2
    go_ret
    exact ⟨ret_bool (by simp [inB, hd]), rfl⟩
set_option maxHeartbeats 400000 in
theorem within_any (n lo hi : Int) (w : World) : Calls Try.prog 64 #[.int .i64 n, .int .i64 lo, .int .i64 hi] w fun e w' => e = .returned (.bool (inB n lo hi)) ∧ w = w' := by
  by_cases h : lo ≤ n
  · have hd : decide (lo ≤ n) = true := by simpa using h
    go_enter Try.func64, Try.ntmps64
    go_wp2
    go_ret
    exact ⟨ret_bool (by simp [inB, h]), rfl⟩
  · have hd : decide (lo ≤ n) = false := by simpa using h
    go_enter Try.func64, Try.ntmps64
    go_wp2
    go_ret
    exact ⟨ret_bool (by simp [inB, hd]), rfl⟩

/-- slices.Index over ints -/
def indexI (xs : List Int) (x : Int) : Int := if x ∈ xs then (xs.idxOf x : Int) else -1
theorem indexI_hit {xs : List Int} {x : Int} {k : Nat} (hk : k < xs.length) (hx : x = xs[k]?.getD 0) (hn : x ∉ xs.take k) : indexI xs x = k := by
  have e : xs[k]?.getD 0 = xs[k] := by simp [hk]
  have hm : x ∈ xs := by rw [hx, e]; exact List.getElem_mem hk
  have hd : xs = xs.take k ++ xs.drop k := (List.take_append_drop k xs).symm
  have h2 : xs.drop k = x :: xs.drop (k + 1) := by rw [List.drop_eq_getElem_cons hk, hx, e]
  have hl : (xs.take k).length = k := by rw [List.length_take]; omega
  unfold indexI
  rw [if_pos hm]
  have : xs.idxOf x = k := by
    rw [hd, h2, List.idxOf_append, if_neg hn, List.idxOf_cons_self, hl, Nat.zero_add]
  rw [this]
theorem indexI_miss {xs : List Int} {x : Int} (hn : x ∉ xs) : indexI xs x = -1 := by unfold indexI; rw [if_neg hn]
theorem notMem_take_succ {xs : List Int} {x : Int} {k : Nat} (hk : k < xs.length) (hx : ¬ x = xs[k]?.getD 0) (hn : x ∉ xs.take k) : x ∉ xs.take (k + 1) := by
  rw [List.take_succ_eq_append_getElem hk]
  have e : xs[k]?.getD 0 = xs[k] := by simp [hk]
  rw [e] at hx
  rw [List.mem_append, List.mem_singleton]
  exact fun h => h.elim hn hx

/-- slices.Contains over ints -/
def containsI (xs : List Int) (x : Int) : Bool := decide (x ∈ xs)
theorem containsI_index (xs : List Int) (x : Int) : decide (0 ≤ indexI xs x) = containsI xs x := by
  unfold containsI indexI
  by_cases h : x ∈ xs <;> simp [h]
end Go.Proofs.Ytceeplhkokajhaa
