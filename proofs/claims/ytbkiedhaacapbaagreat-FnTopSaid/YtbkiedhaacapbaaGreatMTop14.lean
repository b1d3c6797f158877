/- Texts put together: Flip. -/
import Derived.Test.YtbkiedhaacapbaaGreatMTop02
import Derived.Test.YtbkiedhaacapbaaGreatMTop09
import Derived.Test.YtbkiedhaacapbaaGreatMTop03
import Derived.Deep.RegionHeld3
import Derived.Deep.RegionLawGrows
namespace Go.Proofs.YtbkiedhaacapbaaGreat
open Go.RowKit Go.Sort
set_option maxRecDepth 100000

/-- one digit turned over -/
def xorI (x : Int) (b : Nat) : Int := bits BinOp.xor IntKind.i64 x (wrap64 (2 ^ b))
def flipL (xs : List Int) (a b : Nat) : List Int := (xs.set a (xorI (xs.getD a 0) b)).set b (xorI ((xs.set a (xorI (xs.getD a 0) b)).getD b 0) a)
theorem flipL_len (xs : List Int) (a b : Nat) : (flipL xs a b).length = xs.length := by simp [flipL]
end Go.Proofs.YtbkiedhaacapbaaGreat

