/- FnExactAwayGoalWinner: the walk of the law. -/
import Derived.Test.YtmcajbhillekjaaAway2
import Derived.Test.YtmcajbhillekjaaFrame
namespace Go.Proofs.Ytmcajbhillekjaa
open Go.RowKit Go.Sort

/-- a contract that holds in every world above, as a region that draws meets it -/
theorem quiet_below {P : Program} {f : FuncId} {args : Array Value} {w : World} {v : Value}
    (h : ∀ W, Below w.heap.size w W → Calls P f args W fun e w' => e = .returned v ∧ Below W.heap.size W w') (d : Nat) (os : Array Obj) :
    Calls P f args (grow (redrawn w d) os) fun e w'' => e = .returned v ∧ ∃ p : Regrown, w'' = grow (redrawn w p.d) p.os := Calls.regrown_of (h _ (below_regrown w d os))

/-- a result in a box -/
def Box4 (W : World) (g : Nat) (a b c d : Int) : Prop := W.cell? ⟨g, 0, none⟩ = some (.int .i64 a) ∧ W.cell? ⟨g, 1, none⟩ = some (.int .i64 b) ∧ W.cell? ⟨g, 2, none⟩ = some (.int .i64 c) ∧ W.cell? ⟨g, 3, none⟩ = some (.int .i64 d)
theorem Box4.below {W W' : World} {g : Nat} {a b c d : Int} (h : Box4 W g a b c d) (hb : Below W.heap.size W W') : Box4 W' g a b c d := by
  obtain ⟨h0, h1, h2, h3⟩ := h
  exact ⟨(hb.cell (World.block_lt_of_cell? W _ h0)).trans h0, (hb.cell (World.block_lt_of_cell? W _ h1)).trans h1, (hb.cell (World.block_lt_of_cell? W _ h2)).trans h2, (hb.cell (World.block_lt_of_cell? W _ h3)).trans h3⟩

set_option maxHeartbeats 1000000 in
theorem lawAwayGoalWinner (v0 v1 : Value) (w : World) (h0 : ResultV v0) (h1 : ResultV v1) :
    Calls Try.prog 6 #[v0, v1] w fun e w' => e = .returned (.bool true) ∧ Below w.heap.size w w' := by
  obtain ⟨a, b, c, d, rfl, -⟩ := h0
  obtain ⟨e, f, g, h, rfl, -⟩ := h1
  have hne : (awayI a b c d e f g h != awayI a b c d e f g h) = false := by simp
  go_enter Try.func6, Try.ntmps6
  go_wp2_with fail
  have B0 := (((Below.refl w.heap.size w).alloc (Nat.le_refl _) (.cells #[.int .i64 a, .int .i64 b, .int .i64 c, .int .i64 d] 29)).alloc (by simp) (.cells #[.int .i64 e, .int .i64 f, .int .i64 g, .int .i64 h] 29))
  have x0 : Box4 ((w.alloc (.cells #[.int .i64 a, .int .i64 b, .int .i64 c, .int .i64 d] 29)).alloc (.cells #[.int .i64 e, .int .i64 f, .int .i64 g, .int .i64 h] 29)) w.heap.size a b c d := ⟨by simp, by simp, by simp, by simp⟩
  have x1 : Box4 ((w.alloc (.cells #[.int .i64 a, .int .i64 b, .int .i64 c, .int .i64 d] 29)).alloc (.cells #[.int .i64 e, .int .i64 f, .int .i64 g, .int .i64 h] 29)) (w.heap.size + 1) e f g h := ⟨by simp, by simp, by simp, by simp⟩
  generalize (w.alloc (.cells #[.int .i64 a, .int .i64 b, .int .i64 c, .int .i64 d] 29)).alloc (.cells #[.int .i64 e, .int .i64 f, .int .i64 g, .int .i64 h] 29) = W at *
  have X0 := Lib.hid x0
  have X1 := Lib.hid x1
  have HB := Lib.hid B0
  clear x0 x1 B0
  have step : ∀ W0 : World, Box4 W0 w.heap.size a b c d → Box4 W0 (w.heap.size + 1) e f g h → True := fun _ _ _ => trivial
  clear step
  have k1 := quiet_below (w := W) (fun W _ => toResult_any a b c d W)
  have k2 := quiet_below (w := W) (fun W _ => toResult_any e f g h W)
  have k3 := quiet_below (w := W) (fun W _ => specAway a b c d e f g h W)
  obtain ⟨y0, y1, y2, y3⟩ := X0.out
  obtain ⟨z0, z1, z2, z3⟩ := X1.out
  have y0' := cell_regrown y0
  have y1' := cell_regrown y1
  have y2' := cell_regrown y2
  have y3' := cell_regrown y3
  have z0' := cell_regrown z0
  have z1' := cell_regrown z1
  have z2' := cell_regrown z2
  have z3' := cell_regrown z3
  clear y0 y1 y2 y3 z0 z1 z2 z3
  refine wp_region_below (by kernel_rfl) (by kernel_rfl) ?_
  repeat (quiet_step (first | (with_reducible exact k1 _ _) | (with_reducible exact k2 _ _) | (with_reducible exact k3 _ _)))
  refine wpQuiet_nil ?_
  intro w1 hb1
  clear y0' y1' y2' y3' z0' z1' z2' z3' k1 k2 k3
  have x0 := Lib.hid (X0.out.below hb1)
  have x1 := Lib.hid (X1.out.below hb1)
  have HB1 : Hid (Below w.heap.size w w1) := Below.then HB.out hb1
  clear X0 X1 HB hb1
  go_wp2_with fail
  have k1 := quiet_below (w := w1) (fun W _ => toResult_any a b c d W)
  have k2 := quiet_below (w := w1) (fun W _ => toResult_any e f g h W)
  have k3 := quiet_below (w := w1) (fun W _ => implAway a b c d e f g h W)
  obtain ⟨y0, y1, y2, y3⟩ := x0.out
  obtain ⟨z0, z1, z2, z3⟩ := x1.out
  have y0' := cell_regrown y0
  have y1' := cell_regrown y1
  have y2' := cell_regrown y2
  have y3' := cell_regrown y3
  have z0' := cell_regrown z0
  have z1' := cell_regrown z1
  have z2' := cell_regrown z2
  have z3' := cell_regrown z3
  clear y0 y1 y2 y3 z0 z1 z2 z3
  refine wp_region_below (by kernel_rfl) (by kernel_rfl) ?_
  repeat (quiet_step (first | (with_reducible exact k1 _ _) | (with_reducible exact k2 _ _) | (with_reducible exact k3 _ _)))
  refine wpQuiet_nil ?_
  intro w2 hb2
  have HB2 : Hid (Below w.heap.size w w2) := Below.then HB1.out hb2
  clear y0' y1' y2' y3' z0' z1' z2' z3' k1 k2 k3 hb2
  go_wp2
  go_ret
  exact ⟨rfl, HB2.out⟩
end Go.Proofs.Ytmcajbhillekjaa
