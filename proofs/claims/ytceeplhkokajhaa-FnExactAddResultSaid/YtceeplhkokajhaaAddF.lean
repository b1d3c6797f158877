/- FnExactAddResult: both functions. -/
import Derived.Test.YtceeplhkokajhaaAddS
namespace Go.Proofs.Ytceeplhkokajhaa
open Go.RowKit Go.Sort
theorem own_below_box {v : Value} {B g : Nat} (h : ∀ k, v.ownBlock = some k → k < B) (hg : B ≤ g) : v.ownBlock = none ∨ v.ownBlock ≠ some g := by
  rcases e : v.ownBlock with _ | k
  · exact .inl rfl
  · right
    have := h k e
    intro h2
    injection h2
    omega
theorem box4_old_of {w' : World} {g : Nat} {a b c d : Int} {v : Value} (t : Box4 w' g a b c d) (h : ∀ k, v.ownBlock = some k → w'.heap.size ≤ k) : v.ownBlock = none ∨ v.ownBlock ≠ some g := by
  rcases e : v.ownBlock with _ | k
  · exact .inl rfl
  · right
    have h1 := h k e
    have h3 : g < w'.heap.size := World.block_lt_of_cell? w' _ t.1
    intro h2
    injection h2
    omega
theorem Box4.kept {W W' : World} {g : Nat} {a b c d : Int} {row : Option Nat} (h : Box4 W g a b c d) (hg : W.grownBy W' row) (hne : some g ≠ row) : Box4 W' g a b c d := by
  have k : ∀ {o : Nat} {v : Value}, W.cell? ⟨g, o, none⟩ = some v → W'.cell? ⟨g, o, none⟩ = some v := fun h => (World.cell?_of_block (hg.block g (World.block_lt_of_cell? W _ h) hne)).trans h
  exact ⟨k h.1, k h.2.1, k h.2.2.1, k h.2.2.2⟩
def BoxO (w0 W : World) (g : Nat) : Prop := BoxF W g 0 (.slice none 0 0) ∧ w0.heap.size ≤ g
theorem BoxO.below {w0 W W' : World} {g : Nat} (h : BoxO w0 W g) (hb : Below W.heap.size W W') : BoxO w0 W' g := ⟨BoxF.below h.1 hb, h.2⟩
theorem BoxO.new {w0 : World} (W : World) (h : w0.heap.size ≤ W.heap.size) : BoxO w0 (W.alloc (.cells #[.int .i64 0, .slice none 0 0] 30)) W.heap.size := ⟨BoxF.new W 0 (.slice none 0 0) 30, h⟩
def LgCut (w0 : World) (S : Int) (L : List R4) (ok : Bool) (p q : Value) (wx : World) : Prop :=
  ∃ gB Y cy, p = .pointer (some ⟨gB, 0, none⟩) ∧ q = .bool ok ∧ TBox wx gB S (.slice Y L.length cy) ∧ OwnR wx w0.heap.size (.slice Y L.length cy) L ∧ ((Value.slice Y L.length cy).ownBlock = none ∨ (Value.slice Y L.length cy).ownBlock ≠ some gB) ∧ w0.heap.size ≤ gB ∧ Below w0.heap.size w0 wx
theorem implAdd2 (s : Int) (sl : Value) (rs : List R4) (ra rb rc rd : Int) (w : World) (h : RdR w sl rs) (_hl : rs.length ≤ 1048576) :
    Calls Try.prog 13 #[.agg #[.int .i64 s, sl], .agg #[.int .i64 ra, .int .i64 rb, .int .i64 rc, .int .i64 rd]] w fun e w' => ∃ sl', e = .returned (.tuple #[.agg #[.int .i64 (adS s rs (ra, rb, rc, rd)), sl'], .bool (adOk s rs (ra, rb, rc, rd))]) ∧ OwnR w' w.heap.size sl' (adRs s rs (ra, rb, rc, rd)) ∧ Below w.heap.size w w' :=
  implAdd s sl rs ra rb rc rd w h
end Go.Proofs.Ytceeplhkokajhaa
