/- the order by keys is sorted, plain. -/
import Derived.Test.YtdmneccfbfdloaaSortP
import Derived.Test.YtdmneccfbfdloaaOrd
namespace Go.Proofs.Ytdmneccfbfdloaa
set_option maxRecDepth 100000
def kOf (L : List Int) (x : Int) : Int := - L.getD x.toNat 0
theorem idsL_lt (n : Nat) : (idsL n).Pairwise (· < ·) := by
  unfold idsL
  rw [List.pairwise_map]
  exact List.pairwise_lt_range.imp fun h => by omega
theorem ordK_sorted (L : List Int) (n : Nat) : (ordK L n).Pairwise (LtK (kOf L)) ∧ (ordK L n).Perm (idsL n) := by
  unfold ordK
  refine sortR_sorted (idsL n) (fun x _ y _ => ?_) (idsL_lt n)
  unfold befK kOf
  rw [decide_eq_decide]
  omega
end Go.Proofs.Ytdmneccfbfdloaa
