/- The reference's TourOk: it answers as the program's. -/
import Derived.Test.YtdmneccfbfdloaaTourOk
namespace Go.Proofs.Ytdmneccfbfdloaa
open Go.RowKit Go.Sort

theorem bit_eq_walk (x y : Int) (b a : Nat) : (bits BinOp.and IntKind.i64 (x / 2 ^ b) 1 == bits BinOp.and IntKind.i64 (y / 2 ^ a) 1) = (bitI x b == bitI y a) := by
  rw [i64_and_one, i64_and_one, bitI, bitI, Bool.eq_iff_iff]
  simp only [beq_iff_eq, decide_eq_decide]
  omega

end Go.Proofs.Ytdmneccfbfdloaa
