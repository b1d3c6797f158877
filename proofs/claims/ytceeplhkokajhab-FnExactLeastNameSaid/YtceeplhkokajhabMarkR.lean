/- The helpers of the laws that mark and look up marks, over results, leagues and tours. -/
import Derived.Test.YtceeplhkokajhabMarks
import Derived.Test.YtceeplhkokajhabApp
namespace Go.Proofs.Ytceeplhkokajhab
open Go.RowKit

set_option maxHeartbeats 400000 in
theorem markTour_any (s : Int) (sl : Value) (xs : List Int) (base : Nat) (k : Int) (w : World) (h : Own w base sl xs) (hlen : xs.length ≤ 2097152) (hk : 0 ≤ k) (hk2 : k ≤ 16777216) :
    Calls Try.prog 17 #[.agg #[.int .i64 s, sl], .int .i64 k] w fun e w' => e = .returned (.int .i64 (k + xs.length)) ∧ Own w' base sl (marks k xs.length) ∧ w.grownBy w' sl.ownBlock := by
  have HO := Lib.hid h
  obtain ⟨A, c, rfl, hm1, -, -⟩ := h.form
  clear h
  go_enter Try.func17, Try.ntmps17
  go_wp2_with fail
  refine (markIntS_any _ xs base k _ (HO.out.alloc _) hlen hk hk2).mono ?_
  rintro e w1 ⟨rfl, ho, hg⟩
  have HO1 := Lib.hid ho
  have HG := Lib.hid (grown_of_alloc hg)
  clear ho hg
  go_wp2
  go_ret
  exact ⟨rfl, HO1.out, HG.out⟩
set_option maxHeartbeats 400000 in
theorem heldMarksTour_any (s : Int) (sl : Value) (n : Nat) (k : Int) (w : World) (h : Rd w sl (marks k n)) (hlen : n ≤ 2097152) (hk : 0 ≤ k) (hk2 : k ≤ 16777216) :
    Calls Try.prog 18 #[.agg #[.int .i64 s, sl], .int .i64 k] w fun e w' => e = .returned (.int .i64 (k + n)) ∧ Below w.heap.size w w' := by
  have HR := Lib.hid h
  obtain ⟨A, c, rfl, -, hm, -⟩ := h
  have B0 := Lib.hid (below_alloc1 w (.cells #[.int .i64 s, .slice A (marks k n).length c] 27))
  go_enter Try.func18, Try.ntmps18
  go_wp2_with fail
  refine (heldMarks_any _ n k _ (HR.out.below B0.out) hlen hk hk2).mono ?_
  rintro e w1 ⟨rfl, rfl⟩
  go_wp2
  go_ret
  exact ⟨rfl, B0.out⟩
end Go.Proofs.Ytceeplhkokajhab
