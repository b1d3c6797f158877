/- How the arguments of this seat's laws are opened: ints, slices of ints, tours, results. -/
import Derived.Test.YtdmneccfbfdloaaBase
import Derived.ProofKit
import Derived.OpenShut
import Derived.ShutString
import Derived.ChangeOld
import Derived.Lib.SmallJoins
namespace Go.Proofs.Ytdmneccfbfdloaa
open Go.ChangeShapes Go.WideShapes Go.ChangeAt Go.RowKit Go.Joins
set_option maxRecDepth 100000

theorem own : ownKnob Try.prog.godebug = none := by kernel_rfl
theorem laidOut : laidOutB Try.prog = true := by kernel_rfl

section
variable {H : Type} {enc : TypeId × Value → H} {W : World} {base b0 : Nat} {spare : Nat → Bool} {held : Bool} {v : Value} {d : DataW H} {p : List MemPlace} {r : Reach}

/-- A value that is an int. -/
def IntV (v : Value) : Prop := ∃ a : Int, v = .int .i64 a ∧ -9223372036854775808 ≤ a ∧ a ≤ 9223372036854775807
theorem open_intv (hv : Value.okWide Try.prog W r b0 3 v) (h : DataW.Trod enc Try.prog W base spare held 3 v d p) : IntV v := by
  obtain ⟨a, rfl, rfl, rfl, w1⟩ := open_int Try.underlying3 hv h
  have := bounds_i64 w1
  exact ⟨a, rfl, this.1, this.2⟩

/-- A value that reads as a slice of ints. -/
def IntsV (W : World) (v : Value) : Prop := ∃ xs, Rd W v xs ∧ I64s xs
theorem ints_of {fuel : Nat} {x : DataW H × List MemPlace} {v : Value} (hf : DataW.trod enc Try.prog W base spare held fuel 22 [v] = some x) : IntsV W v := by
  rcases open_ints Try.underlying22 Try.underlying3 (by kernel_rfl) hf with ⟨hcs, _⟩ | ⟨y, l, c, zs, hcs, _, hl, hm, hz, _, hcell, hwz⟩
  · simp at hcs
    subst hcs
    exact ⟨[], Rd.nil_ W, fun x hx => absurd hx (by simp)⟩
  · simp at hcs
    subst hcs
    exact ⟨zs.take l, Rd.of_row hl hm (by rw [hz]; split <;> omega) hcell, fun x hx => bounds_i64 (hwz x (List.mem_of_mem_take hx))⟩
theorem open_intsv (hv : Value.okWide Try.prog W r b0 22 v) (h : DataW.Trod enc Try.prog W base spare held 22 v d p) : IntsV W v := by
  obtain ⟨a0, len0, cap0, rfl⟩ := okWide_slice Try.underlying22 hv
  obtain ⟨fuel, hf⟩ := h
  exact ints_of hf

end
end Go.Proofs.Ytdmneccfbfdloaa
