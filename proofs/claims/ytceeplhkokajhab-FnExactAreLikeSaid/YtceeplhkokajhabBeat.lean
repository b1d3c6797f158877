/- FnExactDoesBeat: the two functions. -/
import Derived.Test.YtceeplhkokajhabTourOkS
namespace Go.Proofs.Ytceeplhkokajhab
open Go.RowKit Go.Sort

noncomputable def beatB (s : Int) (xs : List Int) (a b : Int) : Bool := tourB s xs && inB a 0 (s - 1) && inB b 0 (s - 1) && bitI (xs.getD a.toNat 0) b.toNat

end Go.Proofs.Ytceeplhkokajhab
