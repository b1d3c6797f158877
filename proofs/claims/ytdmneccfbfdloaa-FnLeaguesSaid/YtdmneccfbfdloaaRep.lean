/- slices.Repeat of one number 1. -/
import Derived.Test.YtdmneccfbfdloaaTail
import Derived.Test.YtdmneccfbfdloaaApp
import Derived.Test.YtdmneccfbfdloaaBits
import Derived.Laws.CopyOwn
import Derived.Deep.RegionLaw
namespace Go.Proofs.Ytdmneccfbfdloaa
open Go.RowKit Go.Sort

theorem ints_made' (n : Nat) : (madeCells (Value.int IntKind.i64 0).cells (n * 1)).toList = (List.replicate n (0 : Int)).map (Value.int .i64) := by
  have := toList_madeCells_one (.int .i64 0) (n * 1)
  simpa [Value.cells] using this
end Go.Proofs.Ytdmneccfbfdloaa
