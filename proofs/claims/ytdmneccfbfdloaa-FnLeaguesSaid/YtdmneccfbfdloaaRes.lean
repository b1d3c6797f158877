/- A result of a match, by value. -/
import Derived.Test.YtdmneccfbfdloaaFrame
import Derived.Test.YtdmneccfbfdloaaSl
namespace Go.Proofs.Ytdmneccfbfdloaa
open Go.ChangeShapes Go.WideShapes Go.ChangeAt Go.RowKit Go.Joins
set_option maxRecDepth 100000

/-- the value of a result -/
def ResB (a b c d : Int) : Prop := (-9223372036854775808 ≤ a ∧ a ≤ 9223372036854775807) ∧ (-9223372036854775808 ≤ b ∧ b ≤ 9223372036854775807) ∧ (-9223372036854775808 ≤ c ∧ c ≤ 9223372036854775807) ∧ (-9223372036854775808 ≤ d ∧ d ≤ 9223372036854775807)
def ResultV (v : Value) : Prop := ∃ a b c d : Int, v = .agg #[.int .i64 a, .int .i64 b, .int .i64 c, .int .i64 d] ∧ ResB a b c d

end Go.Proofs.Ytdmneccfbfdloaa
