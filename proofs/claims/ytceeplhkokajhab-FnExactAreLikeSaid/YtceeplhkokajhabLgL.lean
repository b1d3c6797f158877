/- The helpers of the laws over leagues, by contract; how a league is opened. -/
import Derived.Test.YtceeplhkokajhabLg
import Derived.Test.YtceeplhkokajhabTourLw
import Derived.Test.YtceeplhkokajhabMarks
namespace Go.Proofs.Ytceeplhkokajhab
open Go.ChangeShapes Go.WideShapes Go.ChangeAt Go.RowKit Go.Joins Go.Deep Go.Sort
set_option maxRecDepth 100000


theorem flat4_set (rs : List R4) (k : Nat) (hk : k < rs.length) (r : R4) :
    ((((flat4 rs).set (k * 4) (.int .i64 r.1)).set (k * 4 + 1) (.int .i64 r.2.1)).set (k * 4 + 2) (.int .i64 r.2.2.1)).set (k * 4 + 3) (.int .i64 r.2.2.2) = flat4 (rs.set k r) := by
  induction rs generalizing k with
  | nil => simp at hk
  | cons q rs ih =>
    cases k with
    | zero => simp [flat4, cells4]
    | succ k =>
      have e : flat4 (q :: rs) = cells4 q ++ flat4 rs := by simp [flat4]
      have l : (cells4 q).length = 4 := rfl
      have s : ∀ (L : List Value) (i : Nat) (u : Value), (cells4 q ++ L).set ((k + 1) * 4 + i) u = cells4 q ++ L.set (k * 4 + i) u := fun L i u => by
        rw [List.set_append_right _ _ (by omega), l, show (k + 1) * 4 + i - 4 = k * 4 + i by omega]
      have s0 : ∀ (L : List Value) (u : Value), (cells4 q ++ L).set ((k + 1) * 4) u = cells4 q ++ L.set (k * 4) u := fun L u => s L 0 u
      rw [e, s0, s, s, s, ih k (by simpa using hk), List.set_cons_succ]
      simp [flat4]
end Go.Proofs.Ytceeplhkokajhab
