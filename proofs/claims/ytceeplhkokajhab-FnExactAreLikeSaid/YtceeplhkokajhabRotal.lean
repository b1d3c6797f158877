/- FnExactIsRotational: the functions. -/
import Derived.Test.YtceeplhkokajhabRen2
import Derived.Test.YtceeplhkokajhabPerm
import Derived.Test.YtceeplhkokajhabTourOkS
import Derived.Test.YtceeplhkokajhabTourLw
namespace Go.Proofs.Ytceeplhkokajhab
open Go.RowKit Go.Sort
set_option maxRecDepth 100000

def turnL (n k : Nat) : List Int := (List.range k).map fun (a : Nat) => ((a : Int) + 1) % n
theorem turnL_succ (n k : Nat) : turnL n (k + 1) = turnL n k ++ [((k : Int) + 1) % n] := by unfold turnL; rw [List.range_succ, List.map_append]; rfl
theorem turnL_len (n k : Nat) : (turnL n k).length = k := by simp [turnL]
theorem turnL_perm {n : Nat} (h1 : 1 ≤ n) (h8 : n ≤ 8) : PermP n (turnL n n) := by
  rcases (by omega : n = 1 ∨ n = 2 ∨ n = 3 ∨ n = 4 ∨ n = 5 ∨ n = 6 ∨ n = 7 ∨ n = 8) with rfl | rfl | rfl | rfl | rfl | rfl | rfl | rfl
  all_goals exact ⟨by decide, by decide, by decide⟩
noncomputable def rotlB (s : Int) (xs : List Int) : Bool := tourB s xs && decide (xs = rnL xs (turnL xs.length xs.length))
set_option maxHeartbeats 1000000 in
theorem l11Turn_any (n : Nat) (h1 : 1 ≤ n) (h8 : n ≤ 8) (w : World) :
    Calls Try.prog 70 #[.int .i64 n] w fun e w' => ∃ v', e = .returned v' ∧ Own w' w.heap.size v' (turnL n n) ∧ Below w.heap.size w w' := by
  have HL0 := Lib.hid (Own.lit w w.heap.size [] (Nat.le_refl _) (by simp))
  go_enter Try.func70, Try.ntmps70
  go_wp2
  go_loopw [3, 4] (fun v i wr => ∃ (a : Nat), a ≤ n ∧ i = .int .i64 a ∧ Own wr w.heap.size v (turnL n a) ∧ Below w.heap.size w wr) (fun _ i _ => n - (intOf i).toNat)
  case atStart => exact ⟨0, by omega, rfl, by simpa [turnL] using HL0.out, below_alloc1 _ _⟩
  case round =>
    obtain ⟨a, ha, rfl, hown, hb⟩ := hrel
    have HO := Lib.hid hown
    have HB := Lib.hid hb
    clear hown hb
    by_cases hlt : a < n
    · have hr : Int.tmod ((a : Int) + 1) n = ((a : Int) + 1) % n := Int.tmod_eq_emod_of_nonneg (by omega)
      have HMS := Lib.hid (turnL_succ n a)
      have hlen := turnL_len n a
      have ho := HO.out
      have hsz := HB.out.size
      generalize ((a : Int) + 1) % n = r at *
      generalize turnL n a = X at *
      go_wp2_with (at_builtin; refine wp_append1 _ rfl (.tmp 11) (.tmp 16) rfl w.heap.size _ _ _ rfl ho (by simp [Act.eval]) (by omega) (by exact hsz) ?_; intro v' w7 hown1 hg1; have HO7 := Lib.hid hown1; have HB7 := Lib.hid (below_append HB.out hg1 ho (Nat.le_refl _) hsz); clear hown1 hg1)
      go_roundw
      case rel => exact ⟨a + 1, by omega, by go_num, by rw [HMS.out]; exact HO7.out, HB7.out⟩
      case measure => simp [intOf]; omega
    · obtain rfl : n = a := by omega
      go_wp2
      go_ret
      exact ⟨_, rfl, HO.out, HB.out⟩
end Go.Proofs.Ytceeplhkokajhab
