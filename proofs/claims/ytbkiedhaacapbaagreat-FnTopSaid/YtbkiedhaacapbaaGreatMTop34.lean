/- Texts put together: TpK. -/
import Derived.Test.YtbkiedhaacapbaaGreatMTop33
namespace Go.Proofs.YtbkiedhaacapbaaGreat
open Go.RowKit Go.Sort
set_option maxRecDepth 100000
def trK (r : Nat → Nat → Bool) (n : Nat) : Bool := (List.range n).all fun a => (List.range n).all fun b => !r a b || (List.range n).all fun c => !r b c || r a c
def scT (r : Nat → Nat → Bool) (n a : Nat) : Nat := (List.range n).countP fun b => r a b
def sqT (r : Nat → Nat → Bool) (n : Nat) : Nat := ((List.range n).map fun a => scT r n a * scT r n a).sum
def ctT (r : Nat → Nat → Bool) (n : Nat) : Nat := ((List.range n).map fun a => chN (scT r n a) 2).sum
/-- a way through all, by the players in the order c -/
def hpW (r : Nat → Nat → Bool) (c : List Nat) : Nat → List Nat → Option (List Nat)
  | 0, l => some l.reverse
  | m + 1, l => c.findSome? fun b => if r (l.headD 0) b && !l.contains b then hpW r c m (b :: l) else none
def hpA (r : Nat → Nat → Bool) (c : List Nat) (n : Nat) : List Nat := (c.findSome? fun a => hpW r c (n - 1) [a]).getD []
def wyK2 (r : Nat → Nat → Bool) (n : Nat) (l : List Nat) : Bool := (l.length == n) && (l.all fun x => decide (x < n)) && decide l.Nodup && way r l
def kdOk (T n : Nat) : Bool :=
  (trK (bN T) n == (6 * sqT (bN T) n == n * (n - 1) * (2 * n - 1))) && (trK (bN T) n == (chN n 3 == ctT (bN T) n)) &&
  (trK (bN T) n || (wyK2 (bN T) n (hpA (bN T) (List.range n) n) && wyK2 (bN T) n (hpA (bN T) (List.range n).reverse n) && !(hpA (bN T) (List.range n) n == hpA (bN T) (List.range n).reverse n)))
theorem kdOk_all : ∀ n, n < 8 → 1 ≤ n → ((List.range (rc n)).all fun j => kdOk (rp n j) n) = true := by decide +kernel
end Go.Proofs.YtbkiedhaacapbaaGreat

