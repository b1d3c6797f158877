/- l02Perm. -/
import Derived.Test.YtceeplhkokajhabPerm
namespace Go.Proofs.Ytceeplhkokajhab
open Go.RowKit Go.Sort
set_option maxRecDepth 100000
end Go.Proofs.Ytceeplhkokajhab
