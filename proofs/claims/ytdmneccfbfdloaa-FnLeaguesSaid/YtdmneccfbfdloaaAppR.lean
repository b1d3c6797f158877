/- append of one result; leagues as results of functions. -/
import Derived.Test.YtdmneccfbfdloaaLgL
import Derived.Test.YtdmneccfbfdloaaApp
namespace Go.Proofs.Ytdmneccfbfdloaa
open Go.RowKit Go.Sort

/-- a struct {int, slice} in a box that may be stored to -/
def BoxF (W : World) (g : Nat) (s : Int) (v : Value) : Prop := TBox W g s v ∧ ∀ k, W.frozen? ⟨g, k, none⟩ = false
theorem BoxF.new (w : World) (s : Int) (v : Value) (t : TypeId) : BoxF (w.alloc (.cells #[.int .i64 s, v] t)) w.heap.size s v := ⟨TBox.new w s v t, fun k => by simp⟩
theorem BoxF.gt {W : World} {g : Nat} {s : Int} {v : Value} (h : BoxF W g s v) : g < W.heap.size := World.block_lt_of_cell? W _ h.1.1
theorem BoxF.below {W W' : World} {g : Nat} {s : Int} {v : Value} (h : BoxF W g s v) (hb : Below W.heap.size W W') : BoxF W' g s v :=
  ⟨h.1.below hb, fun k => ((bcell hb).2 _ _ h.gt).trans (h.2 k)⟩
theorem BoxF.kept {W W' : World} {g : Nat} {s : Int} {v : Value} {row : Option Nat} (h : BoxF W g s v) (hg : W.grownBy W' row) (hne : some g ≠ row) : BoxF W' g s v :=
  ⟨h.1.kept hg hne, fun k => (World.frozen?_of_block (hg.block g h.gt hne)).trans (h.2 k)⟩
theorem BoxF.set1 {W : World} {g : Nat} {s : Int} {v : Value} (h : BoxF W g s v) (v' : Value) : BoxF (W.setCell ⟨g, 1, none⟩ v') g s v' :=
  ⟨⟨(World.cell?_setCell_other _ _ _ _ (by simp)).trans h.1.1, World.cell?_setCell_same _ _ _ h.1.2⟩, fun k => by have := h.2 k; simpa [go_sem] using this⟩
theorem BoxF.set01 {W : World} {g : Nat} {s : Int} {v : Value} (h : BoxF W g s v) (s' : Int) (v' : Value) : BoxF ((W.setCell ⟨g, 0, none⟩ (.int .i64 s')).setCell ⟨g, 1, none⟩ v') g s' v' :=
  ⟨⟨(World.cell?_setCell_other _ _ _ _ (by simp)).trans (World.cell?_setCell_same _ _ _ h.1.1), World.cell?_setCell_same _ _ _ ((World.cell?_setCell_other _ _ _ _ (by simp)).trans h.1.2)⟩, fun k => by have := h.2 k; simpa [go_sem] using this⟩
theorem wp_append1R {ops : Array Oper} {rest : List Oper} {o : Oper} {a : Act} {Q : Exit → Act → World → Prop} (w : World) (hgd : o.guard = none) (s x : Operand)
    (ho : o.op = .call { callee := .builtin .append, args := #[s, x], argTypes := #[34, 34] })
    (base : Nat) (v : Value) (rs : List R4) (r : R4) (hs : a.eval s = v) (hown : OwnR w base v rs) (hx : a.eval x = .slice (some ⟨w.heap.size, 0, none⟩) 1 1)
    (hlen : rs.length ≤ 1099511627776) (hbase : base ≤ w.heap.size)
    (h : ∀ v' w', OwnR w' base v' (rs ++ [r]) → w.grownBy w' v.ownBlock → wpList Try.prog ops Q rest (a.put o.dst v') w') :
    wpList Try.prog ops Q (o :: rest) a (w.alloc (.cells #[.int .i64 r.1, .int .i64 r.2.1, .int .i64 r.2.2.1, .int .i64 r.2.2.2] 52)) := by
  obtain ⟨i0, hi, hz0, hz1, hz2⟩ := info_parts res_info
  have hown' : (w.alloc (.cells #[.int .i64 r.1, .int .i64 r.2.1, .int .i64 r.2.2.1, .int .i64 r.2.2.2] 52)).ownsRow base 52 4 v rs.length (flat4 rs) := World.ownsRow.alloc hown _
  refine wpList_append_own _ hgd s x 34 ho base 52 i0 (.agg #[.int .i64 0, .int .i64 0, .int .i64 0, .int .i64 0]) 4 32 Try.underlying34 hi hz0 hz1 hz2 rfl (by decide) v rs.length (flat4 rs) hs hown' ⟨w.heap.size, 0, none⟩ 1 1 (cells4 r) hx rfl ?_ ?_ ?_ ?_ ?_ ?_
  · intro j u hj
    match j, hj with
    | 0, hj => simp [cells4] at hj; subst hj; simp [Addr.add]
    | 1, hj => simp [cells4] at hj; subst hj; simp [Addr.add]
    | 2, hj => simp [cells4] at hj; subst hj; simp [Addr.add]
    | 3, hj => simp [cells4] at hj; subst hj; simp [Addr.add]
  · intro u hu; simp [cells4] at hu; rcases hu with rfl | rfl | rfl | rfl <;> rfl
  · unfold maxLen; omega
  · omega
  · simp; omega
  · intro v' w' h1 h2 _
    refine h v' w' ?_ (grown_of_alloc h2)
    unfold OwnR
    rw [List.length_append, flat4_append]
    have e : flat4 [r] = cells4 r := by simp [flat4]
    rw [e]
    exact h1
theorem below_appendR {B : Nat} {a w w' : World} {base : Nat} {v : Value} {rs : List R4} (h : Below B a w) (hg : w.grownBy w' v.ownBlock) (hown : OwnR w base v rs) (hB : B ≤ base) (hbase : base ≤ w.heap.size) : Below B a w' :=
  h.grown hg (Nat.le_trans hB hbase) (fun k hk => Nat.le_trans hB (hown.lt k hk).1)
end Go.Proofs.Ytdmneccfbfdloaa
