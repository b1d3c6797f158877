/- Small lemmas of the laws' helpers: what is left of a bound; a struct read back behind stores. -/
import Derived.Test.YtdmneccfbfdloaaBox
namespace Go.Proofs.Ytdmneccfbfdloaa
open Go.RowKit Go.Sort

/-- what is left behind so many -/
def szI (n : Nat) (left : Int) : Int := if 0 ≤ left - n then left - n else -1
theorem szI_yes {n : Nat} {left : Int} (h : 0 ≤ left - n) : szI n left = left - n := by unfold szI; rw [if_pos h]
theorem szI_no {n : Nat} {left : Int} (h : ¬ 0 ≤ left - n) : szI n left = -1 := by unfold szI; rw [if_neg h]
theorem read_back {w1 : World} {g h : Nat} (hne : h ≠ g) {x y u v z : Value} (c0 : w1.cell? ⟨g, 0, none⟩ = some x) (c1 : w1.cell? ⟨g, 1, none⟩ = some y) :
    (((w1.setCell ⟨h, 1, none⟩ z).setCell ⟨g, 0, none⟩ u).setCell ⟨g, 1, none⟩ v).cell? ⟨g, 0, none⟩ = some u ∧ (((w1.setCell ⟨h, 1, none⟩ z).setCell ⟨g, 0, none⟩ u).setCell ⟨g, 1, none⟩ v).cell? ⟨g, 1, none⟩ = some v := by
  have d0 : (w1.setCell ⟨h, 1, none⟩ z).cell? ⟨g, 0, none⟩ = some x := (World.cell?_setCell_other _ _ _ _ (by simp)).trans c0
  have d1 : (w1.setCell ⟨h, 1, none⟩ z).cell? ⟨g, 1, none⟩ = some y := (World.cell?_setCell_other _ _ _ _ (by simp)).trans c1
  have f0 := World.cell?_setCell_same _ _ u d0
  have f1 : ((w1.setCell ⟨h, 1, none⟩ z).setCell ⟨g, 0, none⟩ u).cell? ⟨g, 1, none⟩ = some y := (World.cell?_setCell_other _ _ _ _ (by simp)).trans d1
  exact ⟨(World.cell?_setCell_other _ _ _ _ (by simp)).trans f0, World.cell?_setCell_same _ _ v f1⟩
theorem setCell_grown (w : World) (p : Addr) (u : Value) : w.grownBy (w.setCell p u) (some p.block) :=
  ⟨rfl, rfl, rfl, by simp [World.setCell], fun k hk hne => Below.heap_setCell _ _ _ _ (fun e => hne (by rw [e]))⟩
theorem own_ne {v : Value} {b g : Nat} (h : ∀ k, v.ownBlock = some k → b ≤ k) (hg : g < b) : v.ownBlock = none ∨ v.ownBlock ≠ some g := by
  rcases e : v.ownBlock with _ | k
  · exact .inl rfl
  · right
    have := h k e
    intro h2
    injection h2
    omega
end Go.Proofs.Ytdmneccfbfdloaa
