/- Structs in boxes: a number and a slice; four numbers. Contracts as a region that draws meets them. -/
import Derived.Test.YtdmneccfbfdloaaBase
namespace Go.Proofs.Ytdmneccfbfdloaa
open Go.RowKit Go.Sort

/-- a tour in a box -/
def TBox (W : World) (g : Nat) (s : Int) (sl : Value) : Prop := W.cell? ⟨g, 0, none⟩ = some (.int .i64 s) ∧ W.cell? ⟨g, 1, none⟩ = some sl
theorem TBox.below {W W' : World} {g : Nat} {s : Int} {sl : Value} (h : TBox W g s sl) (hb : Below W.heap.size W W') : TBox W' g s sl :=
  ⟨(hb.cell (World.block_lt_of_cell? W _ h.1)).trans h.1, (hb.cell (World.block_lt_of_cell? W _ h.2)).trans h.2⟩
theorem TBox.new (w : World) (s : Int) (sl : Value) (t : TypeId) : TBox (w.alloc (.cells #[.int .i64 s, sl] t)) w.heap.size s sl := ⟨by simp, by simp⟩
theorem below_alloc1 (w : World) (o : Obj) : Below w.heap.size w (w.alloc o) := (Below.refl _ _).alloc (Nat.le_refl _) _
/-- a contract that holds in every world above, as a region that draws meets it -/
theorem quiet_below {P : Program} {f : FuncId} {args : Array Value} {w : World} {v : Value}
    (h : ∀ W, Below w.heap.size w W → Calls P f args W fun e w' => e = .returned v ∧ Below W.heap.size W w') (d : Nat) (os : Array Obj) :
    Calls P f args (grow (redrawn w d) os) fun e w'' => e = .returned v ∧ ∃ p : Regrown, w'' = grow (redrawn w p.d) p.os := Calls.regrown_of (h _ (below_regrown w d os))
theorem of_same {P : Program} {f : FuncId} {args : Array Value} {w : World} {v : Value} (h : Calls P f args w fun e w' => e = .returned v ∧ w = w') : Calls P f args w fun e w' => e = .returned v ∧ Below w.heap.size w w' :=
  h.mono fun _ _ ⟨h1, h2⟩ => ⟨h1, by subst h2; exact Below.refl _ _⟩
theorem of_drew {P : Program} {f : FuncId} {args : Array Value} {w : World} {v : Value} (h : Calls P f args w fun e w' => e = .returned v ∧ ∃ q, w' = w.drewN q) : Calls P f args w fun e w' => e = .returned v ∧ Below w.heap.size w w' :=
  h.mono fun _ _ ⟨h1, q, h2⟩ => ⟨h1, by subst h2; exact below_drewN (Below.refl _ _) q⟩

/-- a result in a box -/
def Box4 (W : World) (g : Nat) (a b c d : Int) : Prop := W.cell? ⟨g, 0, none⟩ = some (.int .i64 a) ∧ W.cell? ⟨g, 1, none⟩ = some (.int .i64 b) ∧ W.cell? ⟨g, 2, none⟩ = some (.int .i64 c) ∧ W.cell? ⟨g, 3, none⟩ = some (.int .i64 d)
theorem Box4.below {W W' : World} {g : Nat} {a b c d : Int} (h : Box4 W g a b c d) (hb : Below W.heap.size W W') : Box4 W' g a b c d := by
  obtain ⟨h0, h1, h2, h3⟩ := h
  exact ⟨(hb.cell (World.block_lt_of_cell? W _ h0)).trans h0, (hb.cell (World.block_lt_of_cell? W _ h1)).trans h1, (hb.cell (World.block_lt_of_cell? W _ h2)).trans h2, (hb.cell (World.block_lt_of_cell? W _ h3)).trans h3⟩

theorem Box4.new (w : World) (a b c d : Int) (t : TypeId) : Box4 (w.alloc (.cells #[.int .i64 a, .int .i64 b, .int .i64 c, .int .i64 d] t)) w.heap.size a b c d := ⟨by simp, by simp, by simp, by simp⟩
theorem TBox.kept {W W' : World} {g : Nat} {s : Int} {sl : Value} {row : Option Nat} (h : TBox W g s sl) (hg : W.grownBy W' row) (hne : some g ≠ row) : TBox W' g s sl :=
  ⟨(World.cell?_of_block (hg.block g (World.block_lt_of_cell? W _ h.1) hne)).trans h.1, (World.cell?_of_block (hg.block g (World.block_lt_of_cell? W _ h.2) hne)).trans h.2⟩
theorem nb_ne {a : Option Nat} {g : Nat} (h : a = none ∨ a ≠ some g) : some g ≠ a := by
  rcases h with h | h
  · subst h; simp
  · exact Ne.symm h
theorem own_box_new {w : World} {base : Nat} {v : Value} {xs : List Int} (h : Own w base v xs) : v.ownBlock = none ∨ v.ownBlock ≠ some w.heap.size := by
  rcases e : v.ownBlock with _ | k
  · exact .inl rfl
  · right
    have := (h.lt k e).2
    intro h2
    injection h2
    omega
theorem own_box_old {w w' : World} {g : Nat} {s : Int} {sl v : Value} {xs : List Int} (t : TBox w' g s sl) (h : Own w w'.heap.size v xs) : v.ownBlock = none ∨ v.ownBlock ≠ some g := by
  rcases e : v.ownBlock with _ | k
  · exact .inl rfl
  · right
    have h1 := (h.lt k e).1
    have h3 : g < w'.heap.size := World.block_lt_of_cell? w' _ t.1
    intro h2
    injection h2
    omega
theorem apart_of {v v' : Value} {B : Nat} (h : ∀ k, v.ownBlock = some k → k < B) (h' : ∀ k, v'.ownBlock = some k → B ≤ k) : v.ownBlock = none ∨ v.ownBlock ≠ v'.ownBlock := by
  rcases e : v.ownBlock with _ | g
  · exact .inl rfl
  · right
    intro e'
    have h1 := h g e
    have h2 := h' g e'.symm
    omega
theorem box_new_of {v : Value} {B : Nat} (h : ∀ k, v.ownBlock = some k → k < B) : v.ownBlock = none ∨ v.ownBlock ≠ some B := by
  rcases e : v.ownBlock with _ | k
  · exact .inl rfl
  · right
    have := h k e
    intro h2
    injection h2
    omega
theorem box_old_of {w' : World} {g : Nat} {s : Int} {sl v : Value} (t : TBox w' g s sl) (h : ∀ k, v.ownBlock = some k → w'.heap.size ≤ k) : v.ownBlock = none ∨ v.ownBlock ≠ some g := by
  rcases e : v.ownBlock with _ | k
  · exact .inl rfl
  · right
    have h1 := h k e
    have h3 : g < w'.heap.size := World.block_lt_of_cell? w' _ t.1
    intro h2
    injection h2
    omega
end Go.Proofs.Ytdmneccfbfdloaa
