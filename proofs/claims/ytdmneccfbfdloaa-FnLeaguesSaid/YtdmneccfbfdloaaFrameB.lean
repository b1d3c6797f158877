/- How a slice of bytes is opened. -/
import Derived.Test.YtdmneccfbfdloaaFrame
import Derived.Test.YtdmneccfbfdloaaCur
namespace Go.Proofs.Ytdmneccfbfdloaa
open Go.ChangeShapes Go.WideShapes Go.ChangeAt Go.RowKit Go.Joins
set_option maxRecDepth 100000
section
variable {H : Type} {enc : TypeId × Value → H} {W : World} {base b0 : Nat} {spare : Nat → Bool} {held : Bool} {v : Value} {d : DataW H} {p : List MemPlace} {r : Reach}
theorem bytes_of {fuel : Nat} {x : DataW H × List MemPlace} {v : Value} (hf : DataW.trod enc Try.prog W base spare held fuel 33 [v] = some x) : BytesV W W.heap.size v := by
  rcases open_ints Try.underlying33 Try.underlying5 (by kernel_rfl) hf with ⟨hcs, _⟩ | ⟨y, l, c, zs, hcs, _, hl, hm, hz, _, hcell, hwz⟩
  · simp at hcs
    subst hcs
    exact ⟨none, 0, 0, rfl, Nat.le_refl _, by unfold maxLen; omega, fun h => absurd h (by omega)⟩
  · simp at hcs
    subst hcs
    refine ⟨some y, l, c, rfl, hl, hm, fun h0 => ?_⟩
    have hzl : l ≤ zs.length := by rw [hz]; split <;> omega
    obtain ⟨b, off, spot⟩ := y
    have h00 := hcell 0 (by omega)
    have hspot : spot = none := by simpa [Addr.add] using World.cell?_spot h00
    subst hspot
    refine ⟨b, off, rfl, by have := World.block_lt_of_cell? W _ h00; simpa [Addr.add] using this, fun k hk => ?_⟩
    have hb := bounds_u8 (hwz (zs.getD k 0) (by rw [show zs.getD k 0 = zs[k] by simp [show k < zs.length by omega]]; exact List.getElem_mem _))
    obtain ⟨x, hx⟩ := Int.eq_ofNat_of_zero_le hb.1
    refine ⟨x, by omega, ?_⟩
    have := hcell k (by omega)
    rw [Addr.add_lit, hx] at this
    exact this
theorem open_bytesv (hv : Value.okWide Try.prog W r b0 33 v) (h : DataW.Trod enc Try.prog W base spare held 33 v d p) : BytesV W W.heap.size v := by
  obtain ⟨a0, len0, cap0, rfl⟩ := okWide_slice Try.underlying33 hv
  obtain ⟨fuel, hf⟩ := h
  exact bytes_of hf
end
end Go.Proofs.Ytdmneccfbfdloaa
