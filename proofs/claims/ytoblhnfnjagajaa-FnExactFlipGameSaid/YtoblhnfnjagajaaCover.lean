/- FnExactDoesCover: the two functions. -/
import Derived.Test.YtoblhnfnjagajaaBeat
namespace Go.Proofs.Ytoblhnfnjagajaa
open Go.RowKit Go.Sort

noncomputable def coverB (s : Int) (xs : List Int) (a b : Int) : Bool := beatB s xs a b && (bits BinOp.andNot IntKind.i64 (xs.getD b.toNat 0) (xs.getD a.toNat 0) == 0)

end Go.Proofs.Ytoblhnfnjagajaa
