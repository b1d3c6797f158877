/- Texts put together: Base, App, Box, Own0, Clone, SumN, SkP, Sl, Hof, AllW, Ls, Marks, Mix, SkQ, Bits, Tour. -/
import Derived.Test.YtajeledbmnndmaaRows
import Derived.WalkKit
import Derived.WalkSpells
import Derived.WalkLawsBesides
import Derived.Deep.QuietTactic
import Derived.BigQuiet
import Derived.Lib.Hide
import Derived.Lib.QuietBelow
import Derived.StillTailTactics
import Derived.Handy
import Derived.Deep.LoopGhost
import Derived.Laws.BitsAllLaws
import Derived.Laws.BitsLemmas
namespace Go.Proofs.Ytajeledbmnndmaa
open Go.RowKit Go.Sort

theorem ret_int {k : IntKind} {a b : Int} (h : a = b) : Ending.returned (.int k a) = .returned (.int k b) := by rw [h]
theorem ret_bool {a b : Bool} (h : a = b) : Ending.returned (.bool a) = .returned (.bool b) := by rw [h]

theorem i64_info : (Try.prog.info? 3).map (fun i => (i.zero, i.size, i.bytes)) = some (some (.int .i64 0), 1, 8) := by kernel_rfl

/-- The numbers of the list are int64. -/
def I64s (xs : List Int) : Prop := ∀ x ∈ xs, -9223372036854775808 ≤ x ∧ x ≤ 9223372036854775807
theorem I64s.getD {xs : List Int} (h : I64s xs) (k : Nat) : -9223372036854775808 ≤ xs.getD k 0 ∧ xs.getD k 0 ≤ 9223372036854775807 := by
  rw [List.getD_eq_getElem?_getD]
  rcases hk : xs[k]? with _ | x
  · simp
  · exact h x (List.mem_of_getElem? hk)
theorem I64s.getD' {xs : List Int} (h : I64s xs) (k : Nat) : -9223372036854775808 ≤ xs[k]?.getD 0 ∧ xs[k]?.getD 0 ≤ 9223372036854775807 := by
  rw [← List.getD_eq_getElem?_getD]; exact h.getD k

/-- THE SLICE VALUE v READS AS THE LIST xs (of ints), in blocks that are there. -/
def Rd (w : World) (v : Value) (xs : List Int) : Prop :=
  ∃ (A : Option Addr) (c : Nat), v = .slice A xs.length c ∧ xs.length ≤ c ∧ c ≤ maxLen ∧
    (0 < xs.length → ∃ b off, A = some ⟨b, off, none⟩ ∧ b < w.heap.size ∧ ∀ k, k < xs.length → w.cell? ⟨b, off + k, none⟩ = some (.int .i64 (xs.getD k 0)))

theorem Rd.of_row {w : World} {x : Addr} {len cap : Nat} {zs : List Int} (hl : len ≤ cap) (hm : cap ≤ maxLen) (hz : len ≤ zs.length)
    (hcell : ∀ i, i < zs.length → w.cell? (x.add i) = some (.int .i64 (zs.getD i 0))) : Rd w (.slice (some x) len cap) (zs.take len) := by
  have hlen : (zs.take len).length = len := by rw [List.length_take]; omega
  refine ⟨some x, cap, by rw [hlen], by omega, hm, fun h0 => ?_⟩
  obtain ⟨b, off, spot⟩ := x
  have hc := hcell 0 (by omega)
  have hspot : spot = none := by simpa [Addr.add] using World.cell?_spot hc
  subst hspot
  refine ⟨b, off, rfl, ?_, fun k hk => ?_⟩
  · have := World.block_lt_of_cell? w _ hc
    simpa [Addr.add] using this
  · have := hcell k (by omega)
    rw [Addr.add_lit] at this
    rw [this]
    rw [hlen] at hk
    simp [hk]
theorem Rd.nil_ (w : World) : Rd w (.slice none 0 0) [] := ⟨none, 0, rfl, Nat.le_refl _, by unfold maxLen; omega, fun h => absurd h (by simp)⟩
theorem Rd.keep {w w' : World} {v : Value} {xs : List Int} (h : Rd w v xs) (hs : w.heap.size ≤ w'.heap.size) (hk : ∀ p : Addr, p.block < w.heap.size → w'.cell? p = w.cell? p) : Rd w' v xs := by
  obtain ⟨A, c, rfl, hl, hc, hb⟩ := h
  refine ⟨A, c, rfl, hl, hc, fun h0 => ?_⟩
  obtain ⟨b, off, rfl, hlt, hcell⟩ := hb h0
  exact ⟨b, off, rfl, by omega, fun k hk' => by rw [hk _ hlt]; exact hcell k hk'⟩
theorem Rd.below {w w' : World} {v : Value} {xs : List Int} (h : Rd w v xs) (hb : Below w.heap.size w w') : Rd w' v xs :=
  h.keep hb.size fun _ hp => hb.cell hp
theorem Rd.drewN {w : World} {v : Value} {xs : List Int} (h : Rd w v xs) (n : Nat) : Rd (w.drewN n) v xs := h
theorem Rd.alloc {w : World} {v : Value} {xs : List Int} (h : Rd w v xs) (o : Obj) : Rd (w.alloc o) v xs :=
  h.below ((Below.refl _ _).alloc (Nat.le_refl _) _)

/-- THE SLICE VALUE v IS NIL OR LIES AT THE HEAD OF A BLOCK FROM base ON, and holds xs. -/
def Own (w : World) (base : Nat) (v : Value) (xs : List Int) : Prop := w.ownsRow base 3 1 v xs.length (xs.map (Value.int .i64))

theorem Own.rd {w : World} {base : Nat} {v : Value} {xs : List Int} (h : Own w base v xs) : Rd w v xs := by
  have hc := fun g hg => World.ownsRow.cells h (g := g) hg
  have hlt := World.ownsRow.lt h
  rcases h.2 with ⟨rfl, h0⟩ | ⟨g, cap, cur, rfl, hb, hg, hle, hm, hs, ht⟩
  · have hx : xs = [] := List.eq_nil_of_length_eq_zero h0
    subst hx
    exact Rd.nil_ w
  · refine ⟨_, cap, rfl, hle, hm, fun _ => ⟨g, 0, rfl, (hlt g rfl).2, fun k hk => ?_⟩⟩
    have := hc g rfl k (.int .i64 (xs.getD k 0)) (by simp [hk])
    simpa [Addr.add_lit] using this
theorem Own.mono {w : World} {b b' : Nat} {v : Value} {xs : List Int} (h : Own w b v xs) (hb : b' ≤ b) : Own w b' v xs := by
  refine ⟨h.1, ?_⟩
  rcases h.2 with h0 | ⟨g, cap, cur, hv, hg, r⟩
  · exact .inl h0
  · exact .inr ⟨g, cap, cur, hv, by omega, r⟩
theorem Own.lt {w : World} {base : Nat} {v : Value} {xs : List Int} (h : Own w base v xs) : ∀ k, v.ownBlock = some k → base ≤ k ∧ k < w.heap.size := World.ownsRow.lt h
theorem Own.below {w w' : World} {base : Nat} {v : Value} {xs : List Int} (h : Own w base v xs) (hb : Below w.heap.size w w') : Own w' base v xs := by
  refine ⟨h.1, ?_⟩
  rcases h.2 with h0 | ⟨g, cap, cur, hv, hg, hh, r⟩
  · exact .inl h0
  · exact .inr ⟨g, cap, cur, hv, hg, by rw [hb.block g (Array.getElem?_eq_some_iff.1 hh).1]; exact hh, r⟩
theorem Own.drewN {w : World} {base : Nat} {v : Value} {xs : List Int} (h : Own w base v xs) (n : Nat) : Own (w.drewN n) base v xs := h
theorem Own.alloc {w : World} {base : Nat} {v : Value} {xs : List Int} (h : Own w base v xs) (o : Obj) : Own (w.alloc o) base v xs := World.ownsRow.alloc h o
/-- Another slice's cells are written: this one stays. -/
theorem Own.kept {w w' : World} {base : Nat} {v : Value} {xs : List Int} {row : Option Nat} (h : Own w base v xs) (hg : w.grownBy w' row) (hne : v.ownBlock = none ∨ v.ownBlock ≠ row) : Own w' base v xs := World.ownsRow.kept h hg hne
/-- Own slices made at different times lie in different blocks. -/
theorem Own.apart {w w' : World} {base base' : Nat} {v v' : Value} {xs ys : List Int} (h : Own w base v xs) (h' : Own w' base' v' ys) (hb : w.heap.size ≤ base') : v.ownBlock = none ∨ v.ownBlock ≠ v'.ownBlock := by
  rcases hv : v.ownBlock with _ | g
  · exact .inl rfl
  · right
    intro e
    have h1 := h.lt g hv
    have h2 := h'.lt g (by rw [← e])
    omega

theorem Own.form {w : World} {base : Nat} {v : Value} {xs : List Int} (h : Own w base v xs) :
    ∃ A c, v = .slice A xs.length c ∧ c ≤ maxLen ∧ xs.length ≤ c ∧ (0 < xs.length → ∃ g, A = some ⟨g, 0, none⟩ ∧ base ≤ g ∧ g < w.heap.size) := by
  have hl := h.lt
  rcases h.2 with ⟨rfl, e⟩ | ⟨g, cap, cur, rfl, hb, hg, hle, hm, _⟩
  · exact ⟨none, 0, by rw [e], by unfold maxLen; omega, by omega, fun h => absurd h (by omega)⟩
  · exact ⟨_, cap, rfl, hm, hle, fun _ => ⟨g, rfl, hb, (hl g rfl).2⟩⟩

/-- an own slice that is not empty: where it lies -/
theorem Own.at_ {w : World} {base : Nat} {v : Value} {xs : List Int} {n : Nat} (h : Own w base v xs) (hl : xs.length = n) (h0 : 0 < n) :
    ∃ g c, v = .slice (some ⟨g, 0, none⟩) n c ∧ base ≤ g ∧ c ≤ maxLen ∧ n ≤ c ∧ (∀ k, k < n → w.cell? ⟨g, k, none⟩ = some (.int .i64 (xs.getD k 0))) ∧ ∀ k, w.frozen? ⟨g, k, none⟩ = false := by
  have hc := h.rd
  subst hl
  have hr : w.ownsRow base 3 1 v xs.length (xs.map (Value.int .i64)) := h
  rcases h.2 with ⟨_, e⟩ | ⟨g, cap, cur, rfl, hb, hg, hle, hm, _⟩
  · omega
  · refine ⟨g, cap, rfl, hb, hm, hle, fun k hk => ?_, fun k => World.ownsRow.frozenAt hr k⟩
    obtain ⟨A, c, e, _, _, hx⟩ := hc
    obtain ⟨b, off, rfl, _, hx⟩ := hx h0
    injection e with e1 _ _
    injection e1 with e1
    injection e1 with e1 e2 _
    subst e1
    subst e2
    have := hx k hk
    simpa using this
/-- a store into an own slice -/
theorem Own.set_ {w : World} {base g n c : Nat} {xs : List Int} (h : Own w base (.slice (some ⟨g, 0, none⟩) n c) xs) (hl : xs.length = n) (k : Nat) (y : Int) :
    Own (w.setCell ⟨g, k, none⟩ (.int .i64 y)) base (.slice (some ⟨g, 0, none⟩) n c) (xs.set k y) ∧ w.grownBy (w.setCell ⟨g, k, none⟩ (.int .i64 y)) (some g) := by
  subst hl
  have hr : w.ownsRow base 3 1 (.slice (some ⟨g, 0, none⟩) xs.length c) xs.length (xs.map (Value.int .i64)) := h
  have := World.ownsRow.stored hr k (.int .i64 y)
  refine ⟨?_, this.2⟩
  unfold Own
  rw [List.length_set, List.map_set]
  exact this.1
theorem set_map_take (f : Int → Int) (xs : List Int) (k : Nat) (hk : k < xs.length) : ((xs.map f).take k ++ xs.drop k).set k (f (xs.getD k 0)) = (xs.map f).take (k + 1) ++ xs.drop (k + 1) := by
  have hl : ((xs.map f).take k).length = k := by rw [List.length_take, List.length_map]; omega
  have e : xs.getD k 0 = xs[k] := by simp [hk]
  rw [List.set_append_right _ _ (by omega), hl, Nat.sub_self, List.drop_eq_getElem_cons hk, List.set_cons_zero, List.take_succ_eq_append_getElem (by simpa using hk), List.append_assoc, e]
  simp
theorem below_drewN {B : Nat} {a w : World} (h : Below B a w) (n : Nat) : Below B a (w.drewN n) := ⟨h.os, h.tape, h.output, h.size, h.block⟩
theorem below_grown {B : Nat} {a w w' : World} {row : Option Nat} (h : Below B a w) (hg : w.grownBy w' row) (hB : B ≤ w.heap.size) (hr : ∀ k, row = some k → B ≤ k) : Below B a w' := h.grown hg hB hr
/-- the cells and marks of what was there -/
theorem bcell {W w1 : World} (hb : Below W.heap.size W w1) : (∀ b o, b < W.heap.size → w1.cell? ⟨b, o, none⟩ = W.cell? ⟨b, o, none⟩) ∧ (∀ b o, b < W.heap.size → w1.frozen? ⟨b, o, none⟩ = W.frozen? ⟨b, o, none⟩) :=
  ⟨fun b o h => hb.cell (p := ⟨b, o, none⟩) h, fun b o h => hb.frozen (p := ⟨b, o, none⟩) h⟩
theorem Below.of_eq {w w' : World} (h : w = w') : Below w.heap.size w w' := by subst h; exact Below.refl _ _
/-- One call behind another. -/
theorem Below.then {w w1 w2 : World} (h : Below w.heap.size w w1) (k : Below w1.heap.size w1 w2) : Below w.heap.size w w2 := h.trans (k.mono h.size)

/-- A REGION THAT DRAWS ITS ORDER, its operations only read, its callees leave all that was there: walked once. -/
theorem wp_region_below {P : Program} {id : Nat} {Q : Exit → Act → World → Prop} {a : Act} {w : World} {l : List Oper} (hm : P.follows .mixedOrders = true) (hB : Region.lexB .any l.toArray = true)
    (h : wpQuiet P l.toArray (fun w' => ∃ p : Regrown, w' = grow (redrawn w p.d) p.os) (fun a' => ∀ w', Below w.heap.size w w' → Q .normal a' w') l a) : (Code.region id l.toArray true).wp P Q a w :=
  wp_region_quiet (C := fun w' => ∃ p : Regrown, w' = grow (redrawn w p.d) p.os) hm hB ⟨⟨w.drawn + 1, #[]⟩, by rw [grow_empty]; rfl⟩ (by
    have e : (fun a' => ∀ w', (∃ p : Regrown, w' = grow (redrawn w p.d) p.os) → Q .normal a' w') = (fun a' => ∀ w', Below w.heap.size w w' → Q .normal a' w') := by
      funext a'
      exact propext ⟨fun h w' hb => h w' (regrown_of_below hb), fun h w' ⟨p, hp⟩ => by subst hp; exact h _ (below_regrown w p.d p.os)⟩
    rw [e]
    simpa using h)

end Go.Proofs.Ytajeledbmnndmaa

namespace Go.Proofs.Ytajeledbmnndmaa
open Go.RowKit

theorem grown_of_alloc {w w' : World} {o : Obj} {row : Option Nat} (h : (w.alloc o).grownBy w' row) : w.grownBy w' row :=
  ⟨h.os, h.tape, h.output, Nat.le_trans (by simp) h.size, fun k hk hne => (h.block k (by simp; omega) hne).trans (Below.heap_alloc w o k hk)⟩

theorem wp_append1 {ops : Array Oper} {rest : List Oper} {o : Oper} {a : Act} {Q : Exit → Act → World → Prop} (w : World) (hgd : o.guard = none) (s x : Operand)
    (ho : o.op = .call { callee := .builtin .append, args := #[s, x], argTypes := #[22, 22] })
    (base : Nat) (v : Value) (xs : List Int) (y : Int) (hs : a.eval s = v) (hown : Own w base v xs) (hx : a.eval x = .slice (some ⟨w.heap.size, 0, none⟩) 1 1)
    (hlen : xs.length ≤ 1099511627776) (hbase : base ≤ w.heap.size)
    (h : ∀ v' w', Own w' base v' (xs ++ [y]) → w.grownBy w' v.ownBlock → wpList Try.prog ops Q rest (a.put o.dst v') w') :
    wpList Try.prog ops Q (o :: rest) a (w.alloc (.cells #[.int .i64 y] 3)) := by
  obtain ⟨i0, hi, hz0, hz1, hz2⟩ := info_parts i64_info
  have hown' : (w.alloc (.cells #[.int .i64 y] 3)).ownsRow base 3 1 v xs.length (xs.map (Value.int .i64)) := World.ownsRow.alloc hown _
  refine wpList_append_own _ hgd s x 22 ho base 3 i0 (.int .i64 0) 1 8 Try.underlying22 hi hz0 hz1 hz2 rfl (by decide) v xs.length (xs.map (Value.int .i64)) hs hown' ⟨w.heap.size, 0, none⟩ 1 1 [.int .i64 y] hx rfl ?_ ?_ ?_ ?_ ?_ ?_
  · intro j u hj
    match j, hj with
    | 0, hj => simp at hj; subst hj; simp [Addr.add]
  · intro u hu; simp at hu; subst hu; rfl
  · unfold maxLen; omega
  · omega
  · simp; omega
  · intro v' w' h1 h2 _
    refine h v' w' ?_ (grown_of_alloc h2)
    unfold Own
    rw [List.length_append, List.map_append]
    exact h1

theorem below_append {B : Nat} {a w w' : World} {base : Nat} {v : Value} {xs : List Int} (h : Below B a w) (hg : w.grownBy w' v.ownBlock) (hown : Own w base v xs) (hB : B ≤ base) (hbase : base ≤ w.heap.size) : Below B a w' :=
  h.grown hg (by omega) fun k hk => by have := (hown.lt k hk).1; omega
/-- a new block whose cells are these numbers -/
theorem Own.lit (w : World) (base : Nat) (xs : List Int) (hb : base ≤ w.heap.size) (hl : xs.length ≤ 1099511627776) : Own (w.alloc (.cells (xs.map (Value.int .i64)).toArray 3)) base (.slice (some ⟨w.heap.size, 0, none⟩) xs.length xs.length) xs := by
  have := World.ownsRow_lit (e := 3) (size := 1) w (xs.map (Value.int .i64)).toArray xs.length hb (by unfold maxLen; omega) (by simp)
  simpa [Own] using this
theorem Own.nil_ (w : World) (base : Nat) : Own w base (.slice none 0 0) [] := World.ownsRow_nil _ _ _ _
end Go.Proofs.Ytajeledbmnndmaa

namespace Go.Proofs.Ytajeledbmnndmaa
open Go.RowKit Go.Sort

/-- a tour in a box -/
def TBox (W : World) (g : Nat) (s : Int) (sl : Value) : Prop := W.cell? ⟨g, 0, none⟩ = some (.int .i64 s) ∧ W.cell? ⟨g, 1, none⟩ = some sl
theorem TBox.below {W W' : World} {g : Nat} {s : Int} {sl : Value} (h : TBox W g s sl) (hb : Below W.heap.size W W') : TBox W' g s sl :=
  ⟨(hb.cell (World.block_lt_of_cell? W _ h.1)).trans h.1, (hb.cell (World.block_lt_of_cell? W _ h.2)).trans h.2⟩
theorem TBox.new (w : World) (s : Int) (sl : Value) (t : TypeId) : TBox (w.alloc (.cells #[.int .i64 s, sl] t)) w.heap.size s sl := ⟨by simp, by simp⟩
theorem below_alloc1 (w : World) (o : Obj) : Below w.heap.size w (w.alloc o) := (Below.refl _ _).alloc (Nat.le_refl _) _
/-- a contract that holds in every world above, as a region that draws meets it -/
theorem quiet_below {P : Program} {f : FuncId} {args : Array Value} {w : World} {v : Value}
    (h : ∀ W, Below w.heap.size w W → Calls P f args W fun e w' => e = .returned v ∧ Below W.heap.size W w') (d : Nat) (os : Array Obj) :
    Calls P f args (grow (redrawn w d) os) fun e w'' => e = .returned v ∧ ∃ p : Regrown, w'' = grow (redrawn w p.d) p.os := Calls.regrown_of (h _ (below_regrown w d os))
theorem of_same {P : Program} {f : FuncId} {args : Array Value} {w : World} {v : Value} (h : Calls P f args w fun e w' => e = .returned v ∧ w = w') : Calls P f args w fun e w' => e = .returned v ∧ Below w.heap.size w w' :=
  h.mono fun _ _ ⟨h1, h2⟩ => ⟨h1, by subst h2; exact Below.refl _ _⟩
theorem of_drew {P : Program} {f : FuncId} {args : Array Value} {w : World} {v : Value} (h : Calls P f args w fun e w' => e = .returned v ∧ ∃ q, w' = w.drewN q) : Calls P f args w fun e w' => e = .returned v ∧ Below w.heap.size w w' :=
  h.mono fun _ _ ⟨h1, q, h2⟩ => ⟨h1, by subst h2; exact below_drewN (Below.refl _ _) q⟩

/-- a result in a box -/
def Box4 (W : World) (g : Nat) (a b c d : Int) : Prop := W.cell? ⟨g, 0, none⟩ = some (.int .i64 a) ∧ W.cell? ⟨g, 1, none⟩ = some (.int .i64 b) ∧ W.cell? ⟨g, 2, none⟩ = some (.int .i64 c) ∧ W.cell? ⟨g, 3, none⟩ = some (.int .i64 d)
theorem Box4.below {W W' : World} {g : Nat} {a b c d : Int} (h : Box4 W g a b c d) (hb : Below W.heap.size W W') : Box4 W' g a b c d := by
  obtain ⟨h0, h1, h2, h3⟩ := h
  exact ⟨(hb.cell (World.block_lt_of_cell? W _ h0)).trans h0, (hb.cell (World.block_lt_of_cell? W _ h1)).trans h1, (hb.cell (World.block_lt_of_cell? W _ h2)).trans h2, (hb.cell (World.block_lt_of_cell? W _ h3)).trans h3⟩

theorem Box4.new (w : World) (a b c d : Int) (t : TypeId) : Box4 (w.alloc (.cells #[.int .i64 a, .int .i64 b, .int .i64 c, .int .i64 d] t)) w.heap.size a b c d := ⟨by simp, by simp, by simp, by simp⟩
theorem TBox.kept {W W' : World} {g : Nat} {s : Int} {sl : Value} {row : Option Nat} (h : TBox W g s sl) (hg : W.grownBy W' row) (hne : some g ≠ row) : TBox W' g s sl :=
  ⟨(World.cell?_of_block (hg.block g (World.block_lt_of_cell? W _ h.1) hne)).trans h.1, (World.cell?_of_block (hg.block g (World.block_lt_of_cell? W _ h.2) hne)).trans h.2⟩
theorem nb_ne {a : Option Nat} {g : Nat} (h : a = none ∨ a ≠ some g) : some g ≠ a := by
  rcases h with h | h
  · subst h; simp
  · exact Ne.symm h
theorem own_box_new {w : World} {base : Nat} {v : Value} {xs : List Int} (h : Own w base v xs) : v.ownBlock = none ∨ v.ownBlock ≠ some w.heap.size := by
  rcases e : v.ownBlock with _ | k
  · exact .inl rfl
  · right
    have := (h.lt k e).2
    intro h2
    injection h2
    omega
theorem own_box_old {w w' : World} {g : Nat} {s : Int} {sl v : Value} {xs : List Int} (t : TBox w' g s sl) (h : Own w w'.heap.size v xs) : v.ownBlock = none ∨ v.ownBlock ≠ some g := by
  rcases e : v.ownBlock with _ | k
  · exact .inl rfl
  · right
    have h1 := (h.lt k e).1
    have h3 : g < w'.heap.size := World.block_lt_of_cell? w' _ t.1
    intro h2
    injection h2
    omega
theorem apart_of {v v' : Value} {B : Nat} (h : ∀ k, v.ownBlock = some k → k < B) (h' : ∀ k, v'.ownBlock = some k → B ≤ k) : v.ownBlock = none ∨ v.ownBlock ≠ v'.ownBlock := by
  rcases e : v.ownBlock with _ | g
  · exact .inl rfl
  · right
    intro e'
    have h1 := h g e
    have h2 := h' g e'.symm
    omega
theorem box_new_of {v : Value} {B : Nat} (h : ∀ k, v.ownBlock = some k → k < B) : v.ownBlock = none ∨ v.ownBlock ≠ some B := by
  rcases e : v.ownBlock with _ | k
  · exact .inl rfl
  · right
    have := h k e
    intro h2
    injection h2
    omega
theorem box_old_of {w' : World} {g : Nat} {s : Int} {sl v : Value} (t : TBox w' g s sl) (h : ∀ k, v.ownBlock = some k → w'.heap.size ≤ k) : v.ownBlock = none ∨ v.ownBlock ≠ some g := by
  rcases e : v.ownBlock with _ | k
  · exact .inl rfl
  · right
    have h1 := h k e
    have h3 : g < w'.heap.size := World.block_lt_of_cell? w' _ t.1
    intro h2
    injection h2
    omega
end Go.Proofs.Ytajeledbmnndmaa

namespace Go.Proofs.Ytajeledbmnndmaa
open Go.RowKit Go.Sort

theorem Own.at1 {w : World} {base g n c : Nat} {xs : List Int} (h : Own w base (.slice (some ⟨g, 0, none⟩) n c) xs) (hl : xs.length = n) (h0 : 0 < n) :
    (∀ k, k < n → w.cell? ⟨g, k, none⟩ = some (.int .i64 (xs.getD k 0))) ∧ ∀ k, w.frozen? ⟨g, k, none⟩ = false := by
  obtain ⟨g', c', e, -, -, -, hx, hf⟩ := h.at_ hl h0
  injection e with e _ _
  injection e with e
  injection e with e _ _
  subst e
  exact ⟨hx, hf⟩
theorem getD_set_other {xs : List Int} {a b : Nat} (v : Int) (h : a ≠ b) : (xs.set a v).getD b 0 = xs.getD b 0 := by
  simp [List.getD_eq_getElem?_getD, h]
theorem getD_set_same {xs : List Int} {a : Nat} (v : Int) (h : a < xs.length) : (xs.set a v).getD a 0 = v := by
  simp [List.getD_eq_getElem?_getD, h]
/-- a list that is told place by place -/
theorem list_ext0 {N M : List Int} {n : Nat} (h1 : N.length = n) (h2 : M.length = n) (h : ∀ i, i < n → N.getD i 0 = M.getD i 0) : N = M := by
  refine List.ext_getElem (by omega) fun i h3 h4 => ?_
  have := h i (by omega)
  simpa [h3, h4] using this
end Go.Proofs.Ytajeledbmnndmaa

namespace Go.Proofs.Ytajeledbmnndmaa
open Go.RowKit Go.Sort
set_option maxRecDepth 100000

theorem wp_appendN {ops : Array Oper} {rest : List Oper} {o : Oper} {a : Act} {Q : Exit → Act → World → Prop} (w : World) (hgd : o.guard = none) (s x : Operand)
    (ho : o.op = .call { callee := .builtin .append, args := #[s, x], argTypes := #[22, 22] })
    (base : Nat) (v : Value) (xs : List Int) (hs : a.eval s = v) (hown : Own w base v xs) (ad : Addr) (c : Nat) (ys : List Int) (hx : a.eval x = .slice (some ad) ys.length c)
    (hc : ∀ k, k < ys.length → w.cell? (ad.add k) = some (.int .i64 (ys.getD k 0)))
    (hlen : xs.length + ys.length ≤ 1099511627776) (hbase : base ≤ w.heap.size)
    (h : ∀ v' w', Own w' base v' (xs ++ ys) → w.grownBy w' v.ownBlock → wpList Try.prog ops Q rest (a.put o.dst v') w') :
    wpList Try.prog ops Q (o :: rest) a w := by
  obtain ⟨i0, hi, hz0, hz1, hz2⟩ := info_parts i64_info
  have hown' : w.ownsRow base 3 1 v xs.length (xs.map (Value.int .i64)) := hown
  refine wpList_append_own _ hgd s x 22 ho base 3 i0 (.int .i64 0) 1 8 Try.underlying22 hi hz0 hz1 hz2 rfl (by decide) v xs.length (xs.map (Value.int .i64)) hs hown' ad ys.length c (ys.map (Value.int .i64)) hx (by simp) ?_ ?_ ?_ ?_ ?_ ?_
  · intro j u hj
    have hjl : j < ys.length := by simpa using (List.getElem?_eq_some_iff.1 hj).1
    rw [hc j hjl]
    simp [hjl] at hj
    simp [hjl, hj]
  · intro u hu; simp at hu; obtain ⟨y, -, rfl⟩ := hu; rfl
  · unfold maxLen; omega
  · omega
  · exact hbase
  · intro v' w' h1 h2 _
    refine h v' w' ?_ h2
    unfold Own
    rw [List.length_append, List.map_append]
    exact h1
set_option maxHeartbeats 400000 in
theorem clone_any (v : Value) (xs : List Int) (w : World) (h : Rd w v xs) (h0 : 0 < xs.length) (hl : xs.length ≤ 1048576) :
    Calls Try.prog 109 #[v] w fun e w' => ∃ v', e = .returned v' ∧ Own w' w.heap.size v' xs ∧ Below w.heap.size w w' := by
  obtain ⟨A, c, rfl, hlc, hm, hc⟩ := h
  obtain ⟨g, off, rfl, hg, hx⟩ := hc h0
  have hx' : ∀ k, k < xs.length → (w.alloc (.cells #[] 3)).cell? ((⟨g, off, none⟩ : Addr).add k) = some (.int .i64 (xs.getD k 0)) := fun k hk => by
    rw [Addr.add_lit, World.cell?_alloc_lt _ _ _ (by exact hg)]
    exact hx k hk
  have HX := Lib.hid hx'
  have ho := Own.lit w w.heap.size [] (Nat.le_refl _) (by simp)
  have HO := Lib.hid ho
  clear hx hx' hc ho
  generalize hn : xs.length = n at *
  have HN := Lib.hid hn
  have e0 : ∀ w : World, (binOp .eql 22 (.slice (some ⟨g, off, none⟩) n c) (.slice none 0 0)).run Try.prog w = .ok (.bool false) w := fun _ => by kernel_rfl
  go_enter Try.func109, Try.ntmps109
  go_wp2_with (at_builtin; refine wp_appendN (w.alloc (.cells #[] 3)) rfl (.tmp 5) (.tmp 6) rfl w.heap.size _ [] rfl HO.out ⟨g, off, none⟩ c xs (by rw [hn]; simp [Act.eval]) (by rw [hn]; exact HX.out) (by simp; omega) (by simp) ?_; intro v' w' ho hgr; have HO2 := Lib.hid ho; have HG2 := Lib.hid hgr; clear ho hgr)
  go_ret
  exact ⟨_, rfl, by simpa using HO2.out, Below.grown (below_alloc1 w _) HG2.out (by simp) (fun k hk => (HO.out.lt k hk).1)⟩
end Go.Proofs.Ytajeledbmnndmaa

namespace Go.Proofs.Ytajeledbmnndmaa
set_option maxRecDepth 100000
/-- a sum over the first n -/
def sumN (f : Nat → Int) : Nat → Int
  | 0 => 0
  | n + 1 => sumN f n + f n
theorem sumN_congr {f g : Nat → Int} {n : Nat} (h : ∀ k, k < n → f k = g k) : sumN f n = sumN g n := by
  induction n with
  | zero => rfl
  | succ n ih => rw [sumN, sumN, ih fun k hk => h k (by omega), h n (by omega)]
theorem sumN_add (f g : Nat → Int) (n : Nat) : sumN (fun k => f k + g k) n = sumN f n + sumN g n := by
  induction n with
  | zero => rfl
  | succ n ih => rw [sumN, sumN, sumN, ih]; omega
theorem sumN_zero (n : Nat) : sumN (fun _ => 0) n = 0 := by
  induction n with
  | zero => rfl
  | succ n ih => rw [sumN, ih]; rfl
theorem sumN_const (c : Int) (n : Nat) : sumN (fun _ => c) n = n * c := by
  induction n with
  | zero => simp [sumN]
  | succ n ih => rw [sumN, ih]; push_cast; rw [Int.add_mul, Int.one_mul]
/-- one place alone -/
theorem sumN_one {f : Nat → Int} {n a : Nat} (ha : a < n) (h : ∀ k, k < n → k ≠ a → f k = 0) : sumN f n = f a := by
  induction n with
  | zero => omega
  | succ n ih =>
    rw [sumN]
    by_cases e : a = n
    · subst e
      rw [sumN_congr (g := fun _ => 0) fun k hk => h k (by omega) (by omega), sumN_zero]; omega
    · rw [ih (by omega) fun k hk => h k (by omega), h n (by omega) (by omega)]; omega
theorem sumN_two {f : Nat → Int} {n a b : Nat} (ha : a < n) (hb : b < n) (hab : a ≠ b) (h : ∀ k, k < n → k ≠ a → k ≠ b → f k = 0) : sumN f n = f a + f b := by
  have e : sumN f n = sumN (fun k => (if k = a then f a else 0) + (if k = b then f b else 0)) n := by
    refine sumN_congr fun k hk => ?_
    by_cases h1 : k = a
    · subst h1; rw [if_pos rfl, if_neg hab]; omega
    · by_cases h2 : k = b
      · subst h2; rw [if_neg h1, if_pos rfl]; omega
      · rw [if_neg h1, if_neg h2, h k hk h1 h2]; rfl
  rw [e, sumN_add, sumN_one ha (fun k _ hk => if_neg hk), sumN_one hb (fun k _ hk => if_neg hk), if_pos rfl, if_pos rfl]
theorem sumN_sub (f g : Nat → Int) (n : Nat) : sumN (fun k => f k - g k) n = sumN f n - sumN g n := by
  induction n with
  | zero => rfl
  | succ n ih => rw [sumN, sumN, sumN, ih]; omega
theorem sumN_zero' {f : Nat → Int} {n : Nat} (h : ∀ k, k < n → f k = 0) : sumN f n = 0 := (sumN_congr h).trans (sumN_zero n)
theorem sumN_mul (c : Int) (f : Nat → Int) (n : Nat) : sumN (fun k => c * f k) n = c * sumN f n := by
  induction n with
  | zero => simp [sumN]
  | succ n ih => rw [sumN, sumN, ih, Int.mul_add]
theorem sumN_swap (f : Nat → Nat → Int) (n m : Nat) : sumN (fun a => sumN (fun b => f a b) n) m = sumN (fun b => sumN (fun a => f a b) m) n := by
  induction m with
  | zero => simp only [sumN]; exact (sumN_zero n).symm
  | succ m ih => rw [sumN, ih, ← sumN_add]; exact sumN_congr fun k _ => rfl
theorem sumN_nonneg {f : Nat → Int} {n : Nat} (h : ∀ k, k < n → 0 ≤ f k) : 0 ≤ sumN f n := by
  induction n with
  | zero => exact Int.le_refl 0
  | succ n ih => have := ih fun k hk => h k (by omega); have := h n (by omega); rw [sumN]; omega
theorem sumN_le {f : Nat → Int} {n : Nat} {B : Int} (h : ∀ k, k < n → f k ≤ B) : sumN f n ≤ B * n := by
  induction n with
  | zero => simp [sumN]
  | succ n ih =>
    have h1 := ih fun k hk => h k (by omega)
    have h2 := h n (by omega)
    rw [sumN]; push_cast; rw [Int.mul_add]; omega
theorem list_sumN (l : List Int) : l.sum = sumN (fun k => l.getD k 0) l.length := by
  induction l with
  | nil => rfl
  | cons x l ih =>
    have : ∀ n, sumN (fun k => (x :: l).getD k 0) (n + 1) = x + sumN (fun k => l.getD k 0) n := fun n => by
      induction n with
      | zero => simp [sumN]
      | succ n ihn => rw [sumN, ihn, sumN]; simp; omega
    rw [List.sum_cons, ih, List.length_cons, this]
theorem map_sumN (f : Nat → Int) (n : Nat) : ((List.range n).map f).sum = sumN f n := by
  induction n with
  | zero => rfl
  | succ n ih => rw [List.range_succ, List.map_append, List.sum_append, ih, sumN]; simp
end Go.Proofs.Ytajeledbmnndmaa

namespace Go.Proofs.Ytajeledbmnndmaa
set_option maxRecDepth 100000
structure SkT (A : Nat → Nat → Int) (m : Nat) : Prop where
  diag : ∀ i, i < m → A i i = 0
  skew : ∀ i k, i < m → k < m → A i k = - A k i
  one : ∀ i k, i < m → k < m → i ≠ k → A i k = 1 ∨ A i k = -1
/-- a kernel vector: each row's sum is 0 -/
def kerV (A : Nat → Nat → Int) (m : Nat) (w : Nat → Int) : Prop := ∀ k, k < m → sumN (fun i => A i k * w i) m = 0
theorem ker_lin {A : Nat → Nat → Int} {m : Nat} {x y : Nat → Int} (hx : kerV A m x) (hy : kerV A m y) (p q : Int) : kerV A m fun i => p * x i - q * y i := by
  intro k hk
  rw [sumN_congr (g := fun i => p * (A i k * x i) - q * (A i k * y i)) fun i _ => by
    rw [Int.mul_sub, ← Int.mul_assoc, ← Int.mul_assoc, Int.mul_comm (A i k) p, Int.mul_comm (A i k) q, Int.mul_assoc, Int.mul_assoc], sumN_sub, sumN_mul, sumN_mul, hx k hk, hy k hk]
  simp
theorem sumN_mod2 {f g : Nat → Int} : ∀ m, (∀ i, i < m → (f i - g i) % 2 = 0) → (sumN f m - sumN g m) % 2 = 0 := by
  intro m
  induction m with
  | zero => intro _; simp [sumN]
  | succ m ih =>
    intro h
    have h1 := ih fun i hi => h i (by omega)
    have h2 := h m (by omega)
    rw [sumN, sumN]
    omega
theorem ker_par {A : Nat → Nat → Int} {m : Nat} (hA : SkT A m) {w : Nat → Int} (hw : kerV A m w) {k : Nat} (hk : k < m) : (sumN w m - w k) % 2 = 0 := by
  have h1 : (sumN (fun i => A i k * w i) m - sumN (fun i => w i - if i = k then w k else 0) m) % 2 = 0 := sumN_mod2 m fun i hi => by
    by_cases e : i = k
    · subst e; rw [hA.diag i hi, if_pos rfl]; omega
    · rw [if_neg e]
      rcases hA.one i k hi hk e with h | h <;> rw [h] <;> omega
  rw [hw k hk, sumN_sub, sumN_one hk (fun i _ hi => if_neg hi), if_pos rfl] at h1
  omega
/-- a kernel vector that is not 0 is 0 nowhere -/
theorem ker_nz {A : Nat → Nat → Int} {m : Nat} (hA : SkT A m) : ∀ B (w : Nat → Int), kerV A m w → (∃ a, a < m ∧ w a ≠ 0 ∧ (w a).natAbs < B) → ∀ a, a < m → w a ≠ 0 := by
  intro B
  induction B with
  | zero => rintro w _ ⟨a, _, _, h⟩; omega
  | succ B ih =>
    rintro w hw ⟨a0, ha0, h0, hB⟩ a ha
    rcases Int.emod_two_eq (sumN w m) with hT | hT
    · have hev : ∀ i, i < m → w i = 2 * (w i / 2) := fun i hi => by have := ker_par hA hw hi; omega
      have hw' : kerV A m fun i => w i / 2 := fun k hk => by
        have h1 := hw k hk
        rw [sumN_congr (g := fun i => 2 * (A i k * (w i / 2))) fun i hi => by
          have := hev i hi
          rw [← Int.mul_assoc, Int.mul_comm 2 (A i k), Int.mul_assoc, ← this], sumN_mul] at h1
        show sumN (fun i => A i k * (w i / 2)) m = 0
        omega
      have := ih _ hw' ⟨a0, ha0, by have := hev a0 ha0; omega, by have := hev a0 ha0; omega⟩ a ha
      intro e
      apply this
      show w a / 2 = 0
      rw [e]; rfl
    · have := ker_par hA hw ha
      omega
theorem ker_zero {A : Nat → Nat → Int} {m : Nat} (hA : SkT A m) {w : Nat → Int} (hw : kerV A m w) {a0 : Nat} (ha0 : a0 < m) (h0 : w a0 = 0) : ∀ a, a < m → w a = 0 := by
  intro a ha
  refine Classical.byContradiction fun h => ?_
  exact ker_nz hA _ w hw ⟨a, ha, h, Nat.lt_succ_self _⟩ a0 ha0 h0
/-- kernel vectors are proportional -/
theorem ker_prop {A : Nat → Nat → Int} {m : Nat} (hA : SkT A m) {x y : Nat → Int} (hx : kerV A m x) (hy : kerV A m y) {a0 : Nat} (ha0 : a0 < m) : ∀ a, a < m → y a0 * x a = x a0 * y a := by
  intro a ha
  have h0 : y a0 * x a0 - x a0 * y a0 = 0 := by rw [Int.mul_comm]; omega
  have : y a0 * x a - x a0 * y a = 0 := ker_zero hA (ker_lin hx hy (y a0) (x a0)) ha0 h0 a ha
  omega
/-! the Pfaffian -/
def pfS (A : Nat → Nat → Int) (h : Nat) (F : List Nat → Int) : List Nat → List Nat → Int → Int
  | _, [], _ => 0
  | pre, x :: t, s => s * F (pre ++ t) * A h x + pfS A h F (pre ++ [x]) t (-s)
def pfF (A : Nat → Nat → Int) : Nat → List Nat → Int
  | 0, _ => 1
  | _ + 1, [] => 1
  | f + 1, h :: t => pfS A h (pfF A f) [] t 1
def pfV (A : Nat → Nat → Int) (m i : Nat) : Int := (if i % 2 = 1 then -1 else 1) * pfF A m ((List.range m).eraseIdx i)
/-! the Pfaffian vector is in the kernel -/
section
variable {A : Nat → Nat → Int}
theorem pf_ker1 (hA : SkT A 1) : kerV A 1 (pfV A 1) := by
  intro k hk
  have h0 := hA.diag 0 (by omega)
  obtain rfl : k = 0 := by omega
  simp only [sumN, h0]
  simp
theorem pf_ker3 (hA : SkT A 3) : kerV A 3 (pfV A 3) := by
  intro k hk
  have d0 := hA.diag 0 (by omega)
  have d1 := hA.diag 1 (by omega)
  have d2 := hA.diag 2 (by omega)
  have s10 := hA.skew 1 0 (by omega) (by omega)
  have s20 := hA.skew 2 0 (by omega) (by omega)
  have s21 := hA.skew 2 1 (by omega) (by omega)
  have e0 : pfV A 3 0 = A 1 2 := by simp [pfV, pfF, pfS, List.range, List.range.loop]
  have e1 : pfV A 3 1 = - A 0 2 := by simp [pfV, pfF, pfS, List.range, List.range.loop]
  have e2 : pfV A 3 2 = A 0 1 := by simp [pfV, pfF, pfS, List.range, List.range.loop]
  obtain rfl | rfl | rfl : k = 0 ∨ k = 1 ∨ k = 2 := by omega
  all_goals
    simp only [sumN, e0, e1, e2]
    grind
set_option maxHeartbeats 4000000 in
theorem pf_ker5 (hA : SkT A 5) : kerV A 5 (pfV A 5) := by
  intro k hk
  have d0 := hA.diag 0 (by omega)
  have d1 := hA.diag 1 (by omega)
  have d2 := hA.diag 2 (by omega)
  have d3 := hA.diag 3 (by omega)
  have d4 := hA.diag 4 (by omega)
  have s10 := hA.skew 1 0 (by omega) (by omega)
  have s20 := hA.skew 2 0 (by omega) (by omega)
  have s21 := hA.skew 2 1 (by omega) (by omega)
  have s30 := hA.skew 3 0 (by omega) (by omega)
  have s31 := hA.skew 3 1 (by omega) (by omega)
  have s32 := hA.skew 3 2 (by omega) (by omega)
  have s40 := hA.skew 4 0 (by omega) (by omega)
  have s41 := hA.skew 4 1 (by omega) (by omega)
  have s42 := hA.skew 4 2 (by omega) (by omega)
  have s43 := hA.skew 4 3 (by omega) (by omega)
  have e0 : pfV A 5 0 = (A 1 2 * (A 3 4) - A 1 3 * (A 2 4) + A 1 4 * (A 2 3)) := by
    simp [pfV, pfF, pfS, List.range, List.range.loop]
    try grind
  have e1 : pfV A 5 1 = -(A 0 2 * (A 3 4) - A 0 3 * (A 2 4) + A 0 4 * (A 2 3)) := by
    simp [pfV, pfF, pfS, List.range, List.range.loop]
    try grind
  have e2 : pfV A 5 2 = (A 0 1 * (A 3 4) - A 0 3 * (A 1 4) + A 0 4 * (A 1 3)) := by
    simp [pfV, pfF, pfS, List.range, List.range.loop]
    try grind
  have e3 : pfV A 5 3 = -(A 0 1 * (A 2 4) - A 0 2 * (A 1 4) + A 0 4 * (A 1 2)) := by
    simp [pfV, pfF, pfS, List.range, List.range.loop]
    try grind
  have e4 : pfV A 5 4 = (A 0 1 * (A 2 3) - A 0 2 * (A 1 3) + A 0 3 * (A 1 2)) := by
    simp [pfV, pfF, pfS, List.range, List.range.loop]
    try grind
  obtain rfl | rfl | rfl | rfl | rfl : k = 0 ∨ k = 1 ∨ k = 2 ∨ k = 3 ∨ k = 4 := by omega
  all_goals
    simp only [sumN, e0, e1, e2, e3, e4]
    clear e0
    clear e1
    clear e2
    clear e3
    clear e4
    grind
set_option maxHeartbeats 4000000 in
theorem pf_ker7 (hA : SkT A 7) : kerV A 7 (pfV A 7) := by
  intro k hk
  have d0 := hA.diag 0 (by omega)
  have d1 := hA.diag 1 (by omega)
  have d2 := hA.diag 2 (by omega)
  have d3 := hA.diag 3 (by omega)
  have d4 := hA.diag 4 (by omega)
  have d5 := hA.diag 5 (by omega)
  have d6 := hA.diag 6 (by omega)
  have s10 := hA.skew 1 0 (by omega) (by omega)
  have s20 := hA.skew 2 0 (by omega) (by omega)
  have s21 := hA.skew 2 1 (by omega) (by omega)
  have s30 := hA.skew 3 0 (by omega) (by omega)
  have s31 := hA.skew 3 1 (by omega) (by omega)
  have s32 := hA.skew 3 2 (by omega) (by omega)
  have s40 := hA.skew 4 0 (by omega) (by omega)
  have s41 := hA.skew 4 1 (by omega) (by omega)
  have s42 := hA.skew 4 2 (by omega) (by omega)
  have s43 := hA.skew 4 3 (by omega) (by omega)
  have s50 := hA.skew 5 0 (by omega) (by omega)
  have s51 := hA.skew 5 1 (by omega) (by omega)
  have s52 := hA.skew 5 2 (by omega) (by omega)
  have s53 := hA.skew 5 3 (by omega) (by omega)
  have s54 := hA.skew 5 4 (by omega) (by omega)
  have s60 := hA.skew 6 0 (by omega) (by omega)
  have s61 := hA.skew 6 1 (by omega) (by omega)
  have s62 := hA.skew 6 2 (by omega) (by omega)
  have s63 := hA.skew 6 3 (by omega) (by omega)
  have s64 := hA.skew 6 4 (by omega) (by omega)
  have s65 := hA.skew 6 5 (by omega) (by omega)
  have e0 : pfV A 7 0 = (A 1 2 * (A 3 4 * (A 5 6) - A 3 5 * (A 4 6) + A 3 6 * (A 4 5)) - A 1 3 * (A 2 4 * (A 5 6) - A 2 5 * (A 4 6) + A 2 6 * (A 4 5)) + A 1 4 * (A 2 3 * (A 5 6) - A 2 5 * (A 3 6) + A 2 6 * (A 3 5)) - A 1 5 * (A 2 3 * (A 4 6) - A 2 4 * (A 3 6) + A 2 6 * (A 3 4)) + A 1 6 * (A 2 3 * (A 4 5) - A 2 4 * (A 3 5) + A 2 5 * (A 3 4))) := by
    simp [pfV, pfF, pfS, List.range, List.range.loop]
    try grind
  have e1 : pfV A 7 1 = -(A 0 2 * (A 3 4 * (A 5 6) - A 3 5 * (A 4 6) + A 3 6 * (A 4 5)) - A 0 3 * (A 2 4 * (A 5 6) - A 2 5 * (A 4 6) + A 2 6 * (A 4 5)) + A 0 4 * (A 2 3 * (A 5 6) - A 2 5 * (A 3 6) + A 2 6 * (A 3 5)) - A 0 5 * (A 2 3 * (A 4 6) - A 2 4 * (A 3 6) + A 2 6 * (A 3 4)) + A 0 6 * (A 2 3 * (A 4 5) - A 2 4 * (A 3 5) + A 2 5 * (A 3 4))) := by
    simp [pfV, pfF, pfS, List.range, List.range.loop]
    try grind
  have e2 : pfV A 7 2 = (A 0 1 * (A 3 4 * (A 5 6) - A 3 5 * (A 4 6) + A 3 6 * (A 4 5)) - A 0 3 * (A 1 4 * (A 5 6) - A 1 5 * (A 4 6) + A 1 6 * (A 4 5)) + A 0 4 * (A 1 3 * (A 5 6) - A 1 5 * (A 3 6) + A 1 6 * (A 3 5)) - A 0 5 * (A 1 3 * (A 4 6) - A 1 4 * (A 3 6) + A 1 6 * (A 3 4)) + A 0 6 * (A 1 3 * (A 4 5) - A 1 4 * (A 3 5) + A 1 5 * (A 3 4))) := by
    simp [pfV, pfF, pfS, List.range, List.range.loop]
    try grind
  have e3 : pfV A 7 3 = -(A 0 1 * (A 2 4 * (A 5 6) - A 2 5 * (A 4 6) + A 2 6 * (A 4 5)) - A 0 2 * (A 1 4 * (A 5 6) - A 1 5 * (A 4 6) + A 1 6 * (A 4 5)) + A 0 4 * (A 1 2 * (A 5 6) - A 1 5 * (A 2 6) + A 1 6 * (A 2 5)) - A 0 5 * (A 1 2 * (A 4 6) - A 1 4 * (A 2 6) + A 1 6 * (A 2 4)) + A 0 6 * (A 1 2 * (A 4 5) - A 1 4 * (A 2 5) + A 1 5 * (A 2 4))) := by
    simp [pfV, pfF, pfS, List.range, List.range.loop]
    try grind
  have e4 : pfV A 7 4 = (A 0 1 * (A 2 3 * (A 5 6) - A 2 5 * (A 3 6) + A 2 6 * (A 3 5)) - A 0 2 * (A 1 3 * (A 5 6) - A 1 5 * (A 3 6) + A 1 6 * (A 3 5)) + A 0 3 * (A 1 2 * (A 5 6) - A 1 5 * (A 2 6) + A 1 6 * (A 2 5)) - A 0 5 * (A 1 2 * (A 3 6) - A 1 3 * (A 2 6) + A 1 6 * (A 2 3)) + A 0 6 * (A 1 2 * (A 3 5) - A 1 3 * (A 2 5) + A 1 5 * (A 2 3))) := by
    simp [pfV, pfF, pfS, List.range, List.range.loop]
    try grind
  have e5 : pfV A 7 5 = -(A 0 1 * (A 2 3 * (A 4 6) - A 2 4 * (A 3 6) + A 2 6 * (A 3 4)) - A 0 2 * (A 1 3 * (A 4 6) - A 1 4 * (A 3 6) + A 1 6 * (A 3 4)) + A 0 3 * (A 1 2 * (A 4 6) - A 1 4 * (A 2 6) + A 1 6 * (A 2 4)) - A 0 4 * (A 1 2 * (A 3 6) - A 1 3 * (A 2 6) + A 1 6 * (A 2 3)) + A 0 6 * (A 1 2 * (A 3 4) - A 1 3 * (A 2 4) + A 1 4 * (A 2 3))) := by
    simp [pfV, pfF, pfS, List.range, List.range.loop]
    try grind
  have e6 : pfV A 7 6 = (A 0 1 * (A 2 3 * (A 4 5) - A 2 4 * (A 3 5) + A 2 5 * (A 3 4)) - A 0 2 * (A 1 3 * (A 4 5) - A 1 4 * (A 3 5) + A 1 5 * (A 3 4)) + A 0 3 * (A 1 2 * (A 4 5) - A 1 4 * (A 2 5) + A 1 5 * (A 2 4)) - A 0 4 * (A 1 2 * (A 3 5) - A 1 3 * (A 2 5) + A 1 5 * (A 2 3)) + A 0 5 * (A 1 2 * (A 3 4) - A 1 3 * (A 2 4) + A 1 4 * (A 2 3))) := by
    simp [pfV, pfF, pfS, List.range, List.range.loop]
    try grind
  obtain rfl | rfl | rfl | rfl | rfl | rfl | rfl : k = 0 ∨ k = 1 ∨ k = 2 ∨ k = 3 ∨ k = 4 ∨ k = 5 ∨ k = 6 := by omega
  all_goals
    simp only [sumN, e0, e1, e2, e3, e4, e5, e6]
    clear e0
    clear e1
    clear e2
    clear e3
    clear e4
    clear e5
    clear e6
    grind
end
end Go.Proofs.Ytajeledbmnndmaa

namespace Go.Proofs.Ytajeledbmnndmaa
open Go.RowKit

def inB (n lo hi : Int) : Bool := decide (lo ≤ n) && decide (n ≤ hi)
theorem inB_true {n lo hi : Int} : inB n lo hi = true ↔ lo ≤ n ∧ n ≤ hi := by simp [inB]
theorem inB_false {n lo hi : Int} : inB n lo hi = false ↔ ¬ (lo ≤ n ∧ n ≤ hi) := by rw [← inB_true]; simp

set_option maxHeartbeats 400000 in
theorem l01In_any (n lo hi : Int) (w : World) : Calls Try.prog 116 #[.int .i64 n, .int .i64 lo, .int .i64 hi] w fun e w' => e = .returned (.bool (inB n lo hi)) ∧ w = w' := by
  by_cases h : lo ≤ n
  · have hd : decide (lo ≤ n) = true := by simpa using h
    go_enter Try.func116, Try.ntmps116
    go_wp2
    go_ret
    exact ⟨ret_bool (by simp [inB, h]), rfl⟩
  · have hd : decide (lo ≤ n) = false := by simpa using h
    go_enter Try.func116, Try.ntmps116
    go_wp2
    go_ret
    exact ⟨ret_bool (by simp [inB, hd]), rfl⟩
set_option maxHeartbeats 400000 in
theorem within_any (n lo hi : Int) (w : World) : Calls Try.prog 86 #[.int .i64 n, .int .i64 lo, .int .i64 hi] w fun e w' => e = .returned (.bool (inB n lo hi)) ∧ w = w' := by
  by_cases h : lo ≤ n
  · have hd : decide (lo ≤ n) = true := by simpa using h
    go_enter Try.func86, Try.ntmps86
    go_wp2
    go_ret
    exact ⟨ret_bool (by simp [inB, h]), rfl⟩
  · have hd : decide (lo ≤ n) = false := by simpa using h
    go_enter Try.func86, Try.ntmps86
    go_wp2
    go_ret
    exact ⟨ret_bool (by simp [inB, hd]), rfl⟩

/-- slices.Index over ints -/
def indexI (xs : List Int) (x : Int) : Int := if x ∈ xs then (xs.idxOf x : Int) else -1
theorem indexI_hit {xs : List Int} {x : Int} {k : Nat} (hk : k < xs.length) (hx : x = xs[k]?.getD 0) (hn : x ∉ xs.take k) : indexI xs x = k := by
  have e : xs[k]?.getD 0 = xs[k] := by simp [hk]
  have hm : x ∈ xs := by rw [hx, e]; exact List.getElem_mem hk
  have hd : xs = xs.take k ++ xs.drop k := (List.take_append_drop k xs).symm
  have h2 : xs.drop k = x :: xs.drop (k + 1) := by rw [List.drop_eq_getElem_cons hk, hx, e]
  have hl : (xs.take k).length = k := by rw [List.length_take]; omega
  unfold indexI
  rw [if_pos hm]
  have : xs.idxOf x = k := by
    rw [hd, h2, List.idxOf_append, if_neg hn, List.idxOf_cons_self, hl, Nat.zero_add]
  rw [this]
theorem indexI_miss {xs : List Int} {x : Int} (hn : x ∉ xs) : indexI xs x = -1 := by unfold indexI; rw [if_neg hn]
theorem notMem_take_succ {xs : List Int} {x : Int} {k : Nat} (hk : k < xs.length) (hx : ¬ x = xs[k]?.getD 0) (hn : x ∉ xs.take k) : x ∉ xs.take (k + 1) := by
  rw [List.take_succ_eq_append_getElem hk]
  have e : xs[k]?.getD 0 = xs[k] := by simp [hk]
  rw [e] at hx
  rw [List.mem_append, List.mem_singleton]
  exact fun h => h.elim hn hx

set_option maxHeartbeats 400000 in
theorem index_any (v : Value) (xs : List Int) (x : Int) (w : World) (h : Rd w v xs) :
    Calls Try.prog 135 #[v, .int .i64 x] w fun e w' => e = .returned (.int .i64 (indexI xs x)) ∧ w = w' := by
  obtain ⟨A, c, rfl, hl1, hm1, hc1⟩ := h
  unfold maxLen at hm1
  generalize hn : xs.length = n at *
  have H1 := Lib.hid hn
  have H3 := Lib.hid hc1
  clear hn hc1
  go_enter Try.func135, Try.ntmps135
  go_wp2
  go_loop [8] (fun i => ∃ k : Nat, k ≤ n ∧ i = .int .i64 k ∧ Hid (x ∉ xs.take k)) (fun i => n - (intOf i).toNat)
  case atStart => exact ⟨0, Nat.zero_le _, rfl, by simp [Hid]⟩
  case round =>
    obtain ⟨k, hk, rfl, HN⟩ := hrel
    by_cases hlt : k < n
    · obtain ⟨b, off, rfl, hb, hx⟩ := H3.out (by omega)
      have hxk := hx k hlt
      clear hx
      go_wp2
      · have h : (x == xs[k]?.getD 0) = true := by assumption
        go_ret
        exact ⟨ret_int (indexI_hit (by have := H1.out; omega) (by simpa using h) HN.out).symm, rfl⟩
      · have h : (x == xs[k]?.getD 0) = false := by assumption
        go_round
        case rel => exact ⟨k + 1, by omega, by go_num, notMem_take_succ (by have := H1.out; omega) (by simpa using h) HN.out⟩
        case measure => simp [intOf]; omega
    · obtain rfl : k = n := by omega
      go_wp2
      go_ret
      exact ⟨ret_int (indexI_miss (by have := HN.out; rwa [List.take_of_length_le (by rw [H1.out]; exact Nat.le_refl _)] at this)).symm, rfl⟩

/-- slices.Contains over ints -/
def containsI (xs : List Int) (x : Int) : Bool := decide (x ∈ xs)
theorem containsI_index (xs : List Int) (x : Int) : decide (0 ≤ indexI xs x) = containsI xs x := by
  unfold containsI indexI
  by_cases h : x ∈ xs <;> simp [h]
set_option maxHeartbeats 400000 in
theorem contains_any (v : Value) (xs : List Int) (x : Int) (w : World) (h : Rd w v xs) :
    Calls Try.prog 97 #[v, .int .i64 x] w fun e w' => e = .returned (.bool (containsI xs x)) ∧ w = w' := by
  go_enter Try.func97, Try.ntmps97
  go_wp2_with (go_at_call 135; refine (index_any _ _ _ _ h).mono ?_; rintro e w1 ⟨rfl, rfl⟩)
  go_ret
  exact ⟨ret_bool (containsI_index xs x), rfl⟩
end Go.Proofs.Ytajeledbmnndmaa

namespace Go.Proofs.Ytajeledbmnndmaa
open Go.RowKit

/-- function number F with what it has captured is entered -/
def Enters (F : FuncId) : Prop := ∀ (args : Array Value) (W : World), (callFunc F args).run Try.prog W = .ok (.enter F args) W

def findI (p : Int → Bool) (xs : List Int) : Int := match xs.findIdx? p with | some k => (k : Int) | none => -1

theorem findI_any (p : Int → Bool) (xs : List Int) : decide (0 ≤ findI p xs) = xs.any p := by
  unfold findI
  rcases h : xs.findIdx? p with _ | k
  · rw [List.findIdx?_eq_none_iff] at h
    have : xs.any p = false := by simpa using h
    rw [this]; rfl
  · have hh := List.findIdx?_eq_some_iff_getElem.1 h
    obtain ⟨hl, hp, _⟩ := hh
    have : xs.any p = true := by rw [List.any_eq_true]; exact ⟨_, List.getElem_mem hl, hp⟩
    rw [this]; simp
theorem findI_miss {p : Int → Bool} {xs : List Int} (h : ∀ x ∈ xs, p x = false) : findI p xs = -1 := by
  unfold findI
  have : xs.findIdx? p = none := by rw [List.findIdx?_eq_none_iff]; simpa using h
  rw [this]
theorem findI_hit {p : Int → Bool} {xs : List Int} {k : Nat} (hk : k < xs.length) (hp : p (xs[k]?.getD 0) = true) (h : ∀ x ∈ xs.take k, p x = false) : findI p xs = k := by
  unfold findI
  have e : xs[k]?.getD 0 = xs[k] := by simp [hk]
  rw [e] at hp
  have : xs.findIdx? p = some k := by
    rw [List.findIdx?_eq_some_iff_getElem]
    refine ⟨hk, hp, fun j hj => ?_⟩
    have := h xs[j] (by
      rw [List.mem_iff_getElem?]
      exact ⟨j, by rw [List.getElem?_take, if_pos hj, List.getElem?_eq_getElem]⟩)
    simp [this]
  rw [this]
theorem findI_step {p : Int → Bool} {xs : List Int} {k : Nat} (hk : k < xs.length) (hp : p (xs[k]?.getD 0) = false) (h : ∀ x ∈ xs.take k, p x = false) : ∀ x ∈ xs.take (k + 1), p x = false := by
  rw [List.take_succ_eq_append_getElem hk]
  have e : xs[k]?.getD 0 = xs[k] := by simp [hk]
  rw [e] at hp
  intro x hx
  rw [List.mem_append, List.mem_singleton] at hx
  rcases hx with hx | rfl
  · exact h x hx
  · exact hp

set_option maxHeartbeats 1000000 in
theorem indexFunc_any (F : FuncId) (caps : Array Value) (hE : Enters F) (v : Value) (xs : List Int) (p : Int → Bool) (w : World) (h : Rd w v xs)
    (hf : ∀ x ∈ xs, ∀ w', Below w.heap.size w w' → Calls Try.prog F (#[.int .i64 x] ++ caps) w' fun e w'' => e = .returned (.bool (p x)) ∧ Below w'.heap.size w' w'') :
    Calls Try.prog 90 #[v, .func (.func F) #[] caps] w fun e w' => e = .returned (.int .i64 (findI p xs)) ∧ Below w.heap.size w w' := by
  obtain ⟨A, c, rfl, hl1, hm1, hc1⟩ := h
  unfold maxLen at hm1
  generalize hn : xs.length = n at *
  have H1 := Lib.hid hn
  have H3 := Lib.hid hc1
  have HF := Lib.hid hf
  clear hn hc1 hf
  have hE' : ∀ (args : Array Value) (W : World), (callFunc F args).run Try.prog W = .ok (.enter F args) W := hE
  go_enter Try.func90, Try.ntmps90
  go_wp2
  go_loopw [8] (fun i wr => ∃ k : Nat, k ≤ n ∧ i = .int .i64 k ∧ Below w.heap.size w wr ∧ Hid (∀ x ∈ xs.take k, p x = false)) (fun i _ => n - (intOf i).toNat)
  case atStart => exact ⟨0, Nat.zero_le _, rfl, Below.refl _ _, by simp [Hid]⟩
  case round =>
    obtain ⟨k, hk, rfl, hb, HN⟩ := hrel
    by_cases hlt : k < n
    · obtain ⟨b, off, rfl, hbb, hx⟩ := H3.out (by omega)
      have hxk : wr.cell? ⟨b, off + k, none⟩ = some (.int .i64 (xs.getD k 0)) := (hb.cell (by exact hbb)).trans (hx k hlt)
      have HB := Lib.hid hb
      clear hx hb
      have hmem : xs[k]?.getD 0 ∈ xs := by
        have hl : k < xs.length := by rw [H1.out]; exact hlt
        rw [List.getElem?_eq_getElem hl]; exact List.getElem_mem hl
      go_wp2_with fail
      refine (HF.out _ hmem wr HB.out).mono ?_
      rintro e w1 ⟨rfl, hb1⟩
      have hbb1 : Below w.heap.size w w1 := Below.then HB.out hb1
      have HB1 := Lib.hid hbb1
      clear hb1 hbb1 hxk hmem
      rcases hp : p (xs[k]?.getD 0) with _ | _
      · go_wp2_with fail
        go_roundw
        case rel => exact ⟨k + 1, by omega, by go_num, HB1.out, findI_step (by rw [H1.out]; exact hlt) hp HN.out⟩
        case measure => simp [intOf]; omega
      · go_wp2_with fail
        go_ret
        exact ⟨ret_int (findI_hit (by rw [H1.out]; exact hlt) hp HN.out).symm, HB1.out⟩
    · obtain rfl : k = n := by omega
      go_wp2
      go_ret
      exact ⟨ret_int (findI_miss (by have := HN.out; rwa [List.take_of_length_le (by rw [H1.out]; exact Nat.le_refl _)] at this)).symm, hb⟩
set_option maxHeartbeats 1000000 in
theorem containsFunc_any (F : FuncId) (caps : Array Value) (hE : Enters F) (v : Value) (xs : List Int) (p : Int → Bool) (w : World) (h : Rd w v xs)
    (hf : ∀ x ∈ xs, ∀ w', Below w.heap.size w w' → Calls Try.prog F (#[.int .i64 x] ++ caps) w' fun e w'' => e = .returned (.bool (p x)) ∧ Below w'.heap.size w' w'') :
    Calls Try.prog 130 #[v, .func (.func F) #[] caps] w fun e w' => e = .returned (.bool (xs.any p)) ∧ Below w.heap.size w w' := by
  have HF := Lib.hid hf
  clear hf
  go_enter Try.func130, Try.ntmps130
  go_wp2_with fail
  refine (indexFunc_any F caps hE v xs p w h HF.out).mono ?_
  rintro e w1 ⟨rfl, hb⟩
  have HB := Lib.hid hb
  clear hb
  go_wp2
  go_ret
  exact ⟨ret_bool (findI_any p xs), HB.out⟩
end Go.Proofs.Ytajeledbmnndmaa

namespace Go.Proofs.Ytajeledbmnndmaa
open Go.RowKit

set_option maxHeartbeats 400000 in
theorem allWithin1_any (x lo hi : Int) (a b : Addr) (w : World) (ha : w.cell? a = some (.int .i64 lo)) (hb : w.cell? b = some (.int .i64 hi)) :
    Calls Try.prog 131 #[.int .i64 x, .pointer (some a), .pointer (some b)] w fun e w' => e = .returned (.bool (!inB x lo hi)) ∧ w = w' := by
  go_enter Try.func131, Try.ntmps131
  go_wp2_with (go_at_call 86; refine (within_any _ _ _ _).mono ?_; rintro e w1 ⟨rfl, rfl⟩)
  go_ret
  exact ⟨rfl, rfl⟩
theorem enters_allWithin1 : Enters 131 := fun _ _ => by kernel_rfl

def allB (xs : List Int) (lo hi : Int) : Bool := xs.all fun x => inB x lo hi
theorem allB_any (xs : List Int) (lo hi : Int) : (!(xs.any fun x => !inB x lo hi)) = allB xs lo hi := by
  unfold allB
  rw [List.all_eq_not_any_not]
set_option maxHeartbeats 400000 in
theorem allWithin_any (v : Value) (xs : List Int) (lo hi : Int) (w : World) (h : Rd w v xs) :
    Calls Try.prog 77 #[v, .int .i64 lo, .int .i64 hi] w fun e w' => e = .returned (.bool (allB xs lo hi)) ∧ Below w.heap.size w w' := by
  have HR := Lib.hid h
  clear h
  go_enter Try.func77, Try.ntmps77
  go_wp2_with fail
  have hf : ∀ x ∈ xs, ∀ w', Below ((w.alloc (.cells #[.int .i64 lo] 3)).alloc (.cells #[.int .i64 hi] 3)).heap.size ((w.alloc (.cells #[.int .i64 lo] 3)).alloc (.cells #[.int .i64 hi] 3)) w' →
      Calls Try.prog 131 (#[.int .i64 x] ++ #[.pointer (some ⟨w.heap.size, 0, none⟩), .pointer (some ⟨w.heap.size + 1, 0, none⟩)]) w' fun e w'' => e = .returned (.bool (!inB x lo hi)) ∧ Below w'.heap.size w' w'' := by
    intro x _ w' hb
    refine (allWithin1_any x lo hi _ _ w' ?_ ?_).mono ?_
    · rw [hb.cell (by simp; try omega)]; simp
    · rw [hb.cell (by simp; try omega)]; simp
    · rintro e w1 ⟨rfl, rfl⟩
      exact ⟨rfl, Below.refl _ _⟩
  refine (containsFunc_any _ _ enters_allWithin1 v xs (fun x => !inB x lo hi) _ ((HR.out.alloc _).alloc _) hf).mono ?_
  rintro e w1 ⟨rfl, hb⟩
  have hb1 : Below w.heap.size w w1 := Below.then (((Below.refl _ _).alloc (Nat.le_refl _) _).alloc (by simp) _) (hb.mono (by simp))
  have HB := Lib.hid hb1
  clear hb hb1 hf
  go_wp2_with fail
  go_ret
  exact ⟨ret_bool (allB_any xs lo hi), HB.out⟩
end Go.Proofs.Ytajeledbmnndmaa

namespace Go.Proofs.Ytajeledbmnndmaa
open Go.RowKit

theorem eqIntS_true (xs ys : List Int) (h : xs.length = ys.length) (HP : ∀ j, j < xs.length → xs.getD j 0 = ys.getD j 0) : decide (xs = ys) = true := by
  rw [decide_eq_true]
  apply List.ext_getElem h
  intro i h1 h2
  have := HP i h1
  simpa [h1, h2] using this

set_option maxHeartbeats 400000 in
theorem eqIntS_any (v1 v2 : Value) (xs ys : List Int) (w : World) (h1 : Rd w v1 xs) (h2 : Rd w v2 ys) :
    Calls Try.prog 13 #[v1, v2] w fun e w' => e = .returned (.bool (decide (xs = ys))) ∧ ∃ q, w' = w.drewN q := by
  obtain ⟨A, c, rfl, hl1, hm1, hc1⟩ := h1
  obtain ⟨B, d, rfl, hl2, hm2, hc2⟩ := h2
  unfold maxLen at hm1 hm2
  generalize hn : xs.length = n at *
  generalize hm : ys.length = m at *
  have H1 := Lib.hid hn
  have H2 := Lib.hid hm
  have H3 := Lib.hid hc1
  have H4 := Lib.hid hc2
  clear hn hm hc1 hc2
  by_cases hnm : n = m
  · subst hnm
    have hne : ((n : Int) != (n : Int)) = false := by simp
    go_enter Try.func13, Try.ntmps13
    go_wp2
    go_loopw [5] (fun i wr => ∃ k q : Nat, k ≤ n ∧ i = .int .i64 k ∧ wr = w.drewN q ∧ Hid (∀ j, j < k → xs.getD j 0 = ys.getD j 0)) (fun i _ => n - (intOf i).toNat)
    case atStart => exact ⟨0, 0, by omega, rfl, rfl, fun j hj => absurd hj (by omega)⟩
    case round =>
      obtain ⟨k, q, hk, rfl, rfl, HP⟩ := hrel
      by_cases hlt : k < n
      · obtain ⟨b, off, rfl, hb, hx⟩ := H3.out (by omega)
        obtain ⟨b', off', rfl, hb', hy⟩ := H4.out (by omega)
        have hxk := hx k hlt
        have hyk := hy k hlt
        clear hx hy
        go_wp2
        go_quiet (fail)
        go_wp2
        · have hne : (xs[k]?.getD 0 != ys[k]?.getD 0) = true := by assumption
          go_ret
          refine ⟨ret_bool ?_, q + nq, by simp⟩
          refine (decide_eq_false ?_).symm
          rintro rfl
          simp at hne
        · have hne : (xs[k]?.getD 0 != ys[k]?.getD 0) = false := by assumption
          go_roundw
          case rel =>
            refine ⟨k + 1, _, by omega, by go_num, rfl, fun j hj => ?_⟩
            by_cases hjk : j < k
            · exact HP.out j hjk
            · obtain rfl : j = k := by omega
              simpa using hne
          case measure => simp [intOf]; omega
      · have hge : ¬ ((k : Int) < (n : Int)) := by omega
        go_wp2
        go_ret
        refine ⟨ret_bool (eqIntS_true xs ys (by rw [H1.out, H2.out]) fun j hj => HP.out j (by have := H1.out; omega)).symm, q, rfl⟩
  · have hne : ((n : Int) != (m : Int)) = true := by simp; omega
    go_enter Try.func13, Try.ntmps13
    go_wp2
    go_ret
    refine ⟨ret_bool (decide_eq_false ?_).symm, 0, rfl⟩
    rintro rfl
    exact hnm (H1.out.symm.trans H2.out)

theorem eqIntS_refl (v1 v2 : Value) (xs : List Int) (w : World) (h1 : Rd w v1 xs) (h2 : Rd w v2 xs) :
    Calls Try.prog 13 #[v1, v2] w fun e w' => e = .returned (.bool true) ∧ ∃ q, w' = w.drewN q := by
  have := eqIntS_any v1 v2 xs xs w h1 h2
  rwa [decide_eq_true (rfl : xs = xs)] at this

theorem set_take (xs : List Int) (k : Nat) (hk : k < xs.length) : (xs.take k ++ List.replicate (xs.length - k) 0).set k (xs.getD k 0) = xs.take (k + 1) ++ List.replicate (xs.length - (k + 1)) 0 := by
  have hr : xs.length - k = (xs.length - (k + 1)) + 1 := by omega
  have hl : (xs.take k).length = k := by rw [List.length_take]; omega
  rw [List.set_append_right _ _ (by omega), hl, Nat.sub_self, hr, List.replicate_succ, List.set_cons_zero, List.take_succ_eq_append_getElem hk, List.append_assoc, List.singleton_append, show xs.getD k 0 = xs[k] by simp [hk]]

set_option maxHeartbeats 400000 in
theorem toIntS_any (v : Value) (xs : List Int) (w : World) (h : Rd w v xs) (hlen : xs.length ≤ 2097152) :
    Calls Try.prog 71 #[v] w fun e w' => ∃ v', e = .returned v' ∧ Own w' w.heap.size v' xs ∧ Below w.heap.size w w' := by
  obtain ⟨i0, hi, hz0, hz1, hz2⟩ := info_parts i64_info
  obtain ⟨A, c, rfl, hl1, hm1, hc1⟩ := h
  generalize hn : xs.length = n at *
  have H1 := Lib.hid hn
  have H3 := Lib.hid hc1
  clear hn hc1
  go_enter Try.func71, Try.ntmps71
  go_wp2_with (at_make; refine wpList_make_full _ rfl _ _ 22 rfl w.heap.size 3 i0 (.int .i64 0) 1 Try.underlying22 hi hz0 hz1 _ _ _ _ n rfl rfl rfl rfl (by rw [hz2]; omega) (by unfold maxLen; omega) (Nat.le_refl _) ?_; intro w1 hown hg1)
  have hb1 : Below w.heap.size w w1 := (Below.refl _ _).grown hg1 (Nat.le_refl _) (by simp)
  go_loopw [4] (fun i wr => ∃ k : Nat, k ≤ n ∧ i = .int .i64 k ∧ wr.ownsRow w.heap.size 3 1 (.slice (some ⟨w.heap.size, 0, none⟩) n n) n ((xs.take k ++ List.replicate (n - k) 0).map (Value.int .i64)) ∧ Below w.heap.size w wr) (fun i _ => n - (intOf i).toNat)
  case atStart => 
    refine ⟨0, Nat.zero_le _, rfl, ?_, hb1⟩
    have e : (madeCells (Value.int IntKind.i64 0).cells (n * 1)).toList = (xs.take 0 ++ List.replicate (n - 0) 0).map (Value.int .i64) := by
      have := toList_madeCells_one (.int .i64 0) (n * 1)
      simpa [Value.cells] using this
    rw [← e]; exact hown
  case round =>
    obtain ⟨k, hk, rfl, hwn, hb⟩ := hrel
    by_cases hlt : k < n
    · obtain ⟨b, off, rfl, hbb, hx⟩ := H3.out (by omega)
      have hxk : wr.cell? ⟨b, off + k, none⟩ = some (.int .i64 (xs.getD k 0)) := (hb.cell (by exact hbb)).trans (hx k hlt)
      have hck : wr.cell? ⟨w.heap.size, k, none⟩ = some (.int .i64 0) := by
        rw [World.ownsRow.cellAt hwn k (by omega)]
        simp [H1.out, hlt, hk]
      have hfk := World.ownsRow.frozenAt hwn k
      have S := World.ownsRow.stored hwn k (.int .i64 (xs.getD k 0))
      have hS : (wr.setCell ⟨w.heap.size, k, none⟩ (.int .i64 (xs.getD k 0))).ownsRow w.heap.size 3 1 (.slice (some ⟨w.heap.size, 0, none⟩) n n) n ((xs.take (k+1) ++ List.replicate (n - (k+1)) 0).map (Value.int .i64)) := by
        have e := set_take xs k (by have := H1.out; omega)
        rw [H1.out] at e
        rw [← e, List.map_set]
        exact S.1
      have HS := Lib.hid hS
      have hB' : Below w.heap.size w (wr.setCell ⟨w.heap.size, k, none⟩ (.int .i64 (xs.getD k 0))) := hb.setCell (Nat.le_refl _) _
      have HB := Lib.hid hB'
      clear hx S hS hB' hwn hb
      go_wp2
      go_roundw
      case rel => 
        rw [List.getD_eq_getElem?_getD] at HS HB
        exact ⟨k + 1, by omega, by go_num, HS.out, HB.out⟩
      case measure => simp [intOf]; omega
    · have hge : ¬ ((k : Int) < (n : Int)) := by omega
      go_wp2
      go_ret
      obtain rfl : k = n := by omega
      refine ⟨_, rfl, ?_, hb⟩
      unfold Own
      rw [H1.out]
      have e : xs.take k ++ List.replicate (k - k) 0 = xs := by rw [List.take_of_length_le (by rw [H1.out]; exact Nat.le_refl _)]; simp
      rw [e] at hwn
      exact hwn
end Go.Proofs.Ytajeledbmnndmaa

namespace Go.Proofs.Ytajeledbmnndmaa
open Go.RowKit

/-- the numbers from k on, n of them -/
def marks (k : Int) (n : Nat) : List Int := (List.range n).map fun (i : Nat) => k + (i : Int)
theorem marks_length (k : Int) (n : Nat) : (marks k n).length = n := by simp [marks]
theorem marks_getD (k : Int) {n i : Nat} (h : i < n) : (marks k n).getD i 0 = k + i := by simp [marks, h]

theorem Below.of_drew {w w' : World} (h : ∃ q, w' = w.drewN q) : Below w.heap.size w w' := by
  obtain ⟨q, rfl⟩ := h
  exact below_drewN (Below.refl _ _) q

theorem mark_set (xs : List Int) (k : Int) (i : Nat) (h : i < xs.length) : (marks k i ++ xs.drop i).set i (k + i) = marks k (i + 1) ++ xs.drop (i + 1) := by
  rw [List.set_append_right _ _ (by rw [marks_length]; exact Nat.le_refl _), marks_length, Nat.sub_self, List.drop_eq_getElem_cons h, List.set_cons_zero]
  simp [marks, List.range_succ]

theorem grown_trans {a b c : World} {row : Option Nat} (h : a.grownBy b row) (k : b.grownBy c row) : a.grownBy c row :=
  ⟨k.os.trans h.os, k.tape.trans h.tape, k.output.trans h.output, Nat.le_trans h.size k.size, fun i hi hne => (k.block i (Nat.lt_of_lt_of_le hi h.size) hne).trans (h.block i hi hne)⟩

set_option maxHeartbeats 400000 in
theorem markIntS_any (v : Value) (xs : List Int) (base : Nat) (k : Int) (w : World) (h : Own w base v xs) (hlen : xs.length ≤ 2097152) (hk : 0 ≤ k) (hk2 : k ≤ 16777216) :
    Calls Try.prog 16 #[v, .int .i64 k] w fun e w' => e = .returned (.int .i64 (k + xs.length)) ∧ Own w' base v (marks k xs.length) ∧ w.grownBy w' v.ownBlock := by
  have h' := h
  obtain ⟨A, c, rfl, hm1, hl1, hc1⟩ := h.form
  unfold maxLen at hm1
  unfold Own at h'
  generalize hn : xs.length = n at *
  have HO := Lib.hid h'
  have HN := Lib.hid hn
  have H3 := Lib.hid hc1
  clear h h' hn hc1
  go_enter Try.func16, Try.ntmps16
  go_wp2
  go_loopw [1, 5] (fun s i wr => ∃ j : Nat, j ≤ n ∧ i = .int .i64 j ∧ s = .int .i64 (k + j) ∧ wr.ownsRow base 3 1 (.slice A n c) n ((marks k j ++ xs.drop j).map (Value.int .i64)) ∧ w.grownBy wr (Value.slice A n c).ownBlock) (fun _ i _ => n - (intOf i).toNat)
  case atStart => exact ⟨0, by omega, rfl, by simp, by simpa [marks] using HO.out, World.grownBy.refl _ _⟩
  case round =>
    obtain ⟨j, hj, rfl, rfl, hown, hg⟩ := hrel
    by_cases hlt : j < n
    · obtain ⟨g, rfl, hb, hgl⟩ := H3.out (by omega)
      have hck : wr.cell? ⟨g, j, none⟩ = some (.int .i64 (xs.getD j 0)) := by
        rw [World.ownsRow.cellAt hown j (by omega)]
        have hl := HN.out
        simp [List.getElem?_append, marks_length, hlt, hl]
      have hfk := World.ownsRow.frozenAt hown j
      have S := World.ownsRow.stored hown j (.int .i64 (k + j))
      have hS : (wr.setCell ⟨g, j, none⟩ (.int .i64 (k + j))).ownsRow base 3 1 (.slice (some ⟨g, 0, none⟩) n c) n ((marks k (j + 1) ++ xs.drop (j + 1)).map (Value.int .i64)) := by
        rw [← mark_set xs k j (by have := HN.out; omega), List.map_set]
        exact S.1
      have hG : w.grownBy (wr.setCell ⟨g, j, none⟩ (.int .i64 (k + j))) (some g) := grown_trans hg S.2
      have HS := Lib.hid (And.intro hS hG)
      clear S hS hG hown hg
      go_wp2
      go_roundw
      case rel => exact ⟨j + 1, by omega, by go_num, by go_num, HS.out.1, HS.out.2⟩
      case measure => simp [intOf]; omega
    · obtain rfl : j = n := by omega
      go_wp2
      go_ret
      refine ⟨rfl, ?_, hg⟩
      unfold Own
      rw [marks_length]
      rw [List.drop_of_length_le (by have := HN.out; omega), List.append_nil] at hown
      exact hown

/-- what heldIntS returns -/
def heldI (xs : List Int) (k : Int) : Int := if xs = marks k xs.length then k + xs.length else -1
theorem heldI_marks (k : Int) (n : Nat) : heldI (marks k n) k = k + n := by unfold heldI; simp [marks_length]
theorem heldI_no {xs : List Int} {k : Int} {j : Nat} (hj : j < xs.length) (h : xs[j]?.getD 0 ≠ k + j) : heldI xs k = -1 := by
  unfold heldI
  rw [if_neg]
  intro e
  apply h
  rw [← List.getD_eq_getElem?_getD, e, marks_getD k hj]
theorem heldI_yes {xs : List Int} {k : Int} (h : ∀ j, j < xs.length → xs.getD j 0 = k + j) : heldI xs k = k + xs.length := by
  unfold heldI
  rw [if_pos]
  apply List.ext_getElem (by rw [marks_length])
  intro i h1 h2
  have := h i h1
  rw [← marks_getD k h1] at this
  simpa [h1, h2] using this

set_option maxHeartbeats 400000 in
theorem heldIntS_any (v : Value) (xs : List Int) (k : Int) (w : World) (h : Rd w v xs) (hlen : xs.length ≤ 2097152) (hk : 0 ≤ k) (hk2 : k ≤ 16777216) :
    Calls Try.prog 17 #[v, .int .i64 k] w fun e w' => e = .returned (.int .i64 (heldI xs k)) ∧ w = w' := by
  obtain ⟨A, c, rfl, hl1, hm1, hc1⟩ := h
  unfold maxLen at hm1
  generalize hn : xs.length = n at *
  have HN := Lib.hid hn
  have H3 := Lib.hid hc1
  clear hn hc1
  go_enter Try.func17, Try.ntmps17
  go_wp2
  go_loop [1, 5] (fun s i => ∃ j : Nat, j ≤ n ∧ i = .int .i64 j ∧ s = .int .i64 (k + j) ∧ Hid (∀ i, i < j → xs.getD i 0 = k + i)) (fun _ i => n - (intOf i).toNat)
  case atStart => exact ⟨0, by omega, rfl, by simp, fun j hj => absurd hj (by omega)⟩
  case round =>
    obtain ⟨j, hj, rfl, rfl, HP⟩ := hrel
    by_cases hlt : j < n
    · obtain ⟨b, off, rfl, hb, hx⟩ := H3.out (by omega)
      have hxk := hx j hlt
      clear hx
      go_wp2
      · have h : (xs[j]?.getD 0 != k + (j : Int)) = true := by assumption
        go_ret
        exact ⟨ret_int (heldI_no (j := j) (by have := HN.out; omega) (by simpa using h)).symm, rfl⟩
      · have h : (xs[j]?.getD 0 != k + (j : Int)) = false := by assumption
        go_round
        case rel =>
          refine ⟨j + 1, by omega, by go_num, by go_num, fun i hi => ?_⟩
          by_cases hij : i < j
          · exact HP.out i hij
          · obtain rfl : i = j := by omega
            simpa using h
        case measure => simp [intOf]; omega
    · obtain rfl : j = n := by omega
      go_wp2
      go_ret
      exact ⟨ret_int (by rw [heldI_yes (by rw [HN.out]; exact HP.out), HN.out]), rfl⟩
theorem heldMarks_any (v : Value) (n : Nat) (k : Int) (w : World) (h : Rd w v (marks k n)) (hlen : n ≤ 2097152) (hk : 0 ≤ k) (hk2 : k ≤ 16777216) :
    Calls Try.prog 17 #[v, .int .i64 k] w fun e w' => e = .returned (.int .i64 (k + n)) ∧ w = w' := by
  have := heldIntS_any v (marks k n) k w h (by rw [marks_length]; exact hlen) hk hk2
  rwa [heldI_marks] at this
theorem apart_symm {a b : Option Nat} (h : a = none ∨ a ≠ b) : b = none ∨ b ≠ a := by
  rcases h with h | h
  · subst h; cases b <;> simp
  · exact .inr (Ne.symm h)
end Go.Proofs.Ytajeledbmnndmaa

namespace Go.Proofs.Ytajeledbmnndmaa
open Go.RowKit

theorem snocInd {α : Type} {p : List α → Prop} (h0 : p []) (h1 : ∀ xs x, p xs → p (xs ++ [x])) (xs : List α) : p xs := by
  have h : ∀ ys : List α, p ys.reverse := by
    intro ys
    induction ys with
    | nil => exact h0
    | cons y ys ih => rw [List.reverse_cons]; exact h1 _ _ ih
  have := h xs.reverse
  rwa [List.reverse_reverse] at this
theorem gcd_step (x y : Nat) : Nat.gcd y (x % y) = Nat.gcd x y := by
  rw [Nat.gcd_comm y, ← Nat.gcd_rec, Nat.gcd_comm]

set_option maxHeartbeats 400000 in
theorem l10Gcd_any (a b : Nat) (w : World) (ha : a ≤ 4611686018427387904) (hb : b ≤ 4611686018427387904) :
    Calls Try.prog 119 #[.int .i64 a, .int .i64 b] w fun e w' => e = .returned (.int .i64 (Nat.gcd a b)) ∧ w = w' := by
  go_enter Try.func119, Try.ntmps119
  go_wp2
  go_loop [0, 1] (fun s t => ∃ x y : Nat, s = .int .i64 x ∧ t = .int .i64 y ∧ x ≤ 4611686018427387904 ∧ y ≤ 4611686018427387904 ∧ Hid (Nat.gcd x y = Nat.gcd a b)) (fun _ t => (intOf t).toNat)
  case atStart => exact ⟨a, b, rfl, rfl, ha, hb, rfl⟩
  case round =>
    obtain ⟨x, y, rfl, rfl, hx, hy, HG⟩ := hrel
    by_cases h0 : 0 < y
    · have hy1 : (1 : Int) ≤ (y : Int) := by omega
      have hlt := Nat.mod_lt x h0
      go_wp2
      go_round
      case rel => exact ⟨y, x % y, rfl, by go_num, hy, by omega, (gcd_step x y).trans HG.out⟩
      case measure => simp [intOf]; omega
    · obtain rfl : y = 0 := by omega
      go_wp2
      go_ret
      refine ⟨ret_int ?_, rfl⟩
      have := HG.out
      rw [Nat.gcd_zero_right] at this
      rw [this]

/-- the greatest common divisor of the numbers -/
def gcdL (xs : List Int) : Nat := xs.foldl (fun g x => Nat.gcd g x.toNat) 0
theorem gcdL_snoc (xs : List Int) (x : Int) : gcdL (xs ++ [x]) = Nat.gcd (gcdL xs) x.toNat := by simp [gcdL, List.foldl_append]
theorem gcdL_dvd (xs : List Int) : ∀ x ∈ xs, gcdL xs ∣ x.toNat := by
  refine snocInd (p := fun xs => ∀ x ∈ xs, gcdL xs ∣ x.toNat) (by simp) (fun xs y ih x hx => ?_) xs
  rw [gcdL_snoc]
  rw [List.mem_append, List.mem_singleton] at hx
  rcases hx with hx | rfl
  · exact Nat.dvd_trans (Nat.gcd_dvd_left _ _) (ih x hx)
  · exact Nat.gcd_dvd_right _ _
theorem gcdL_zero {xs : List Int} (h0 : ∀ x ∈ xs, 0 ≤ x) : gcdL xs = 0 ↔ ∀ x ∈ xs, x = 0 := by
  constructor
  · intro h x hx
    have h1 := gcdL_dvd xs x hx
    rw [h] at h1
    have h2 := Nat.eq_zero_of_zero_dvd h1
    have h3 := h0 x hx
    omega
  · refine snocInd (p := fun xs => (∀ x ∈ xs, x = 0) → gcdL xs = 0) (fun _ => rfl) (fun xs y ih h => ?_) xs
    rw [gcdL_snoc, ih (fun x hx => h x (by simp [hx])), h y (by simp)]
    rfl
def lowL (xs : List Int) : List Int := xs.map fun x => x / (gcdL xs : Int)
theorem gcd_le_bd {g n B : Nat} (hg : g ≤ B) (hn : n ≤ B) : Nat.gcd g n ≤ B := by
  rcases Nat.eq_zero_or_pos g with h | h
  · subst h; rw [Nat.gcd_zero_left]; exact hn
  · exact Nat.le_trans (Nat.gcd_le_left n h) hg
theorem gcdL_le {B : Nat} (xs : List Int) : (∀ x ∈ xs, x.toNat ≤ B) → gcdL xs ≤ B := by
  refine snocInd (p := fun xs => (∀ x ∈ xs, x.toNat ≤ B) → gcdL xs ≤ B) (fun _ => by simp [gcdL]) (fun xs y ih h => ?_) xs
  rw [gcdL_snoc]
  exact gcd_le_bd (ih fun x hx => h x (by simp [hx])) (h y (by simp))
theorem take_snoc {xs : List Int} {k : Nat} (hk : k < xs.length) : xs.take (k + 1) = xs.take k ++ [xs[k]?.getD 0] := by
  rw [List.take_succ_eq_append_getElem hk]
  simp [hk]

theorem map_take_succ' {xs : List Int} {k : Nat} (f : Int → Int) (hk : k < xs.length) : (xs.take (k + 1)).map f = (xs.take k).map f ++ [f (xs[k]?.getD 0)] := by
  rw [take_snoc hk, List.map_append]; rfl
set_option maxHeartbeats 1000000 in
theorem lowest_any (v : Value) (xs : List Int) (w : World) (h : Rd w v xs) (h0 : ∀ x ∈ xs, 0 ≤ x ∧ x ≤ 4611686018427387904) (hne : gcdL xs ≠ 0) (hlen : xs.length ≤ 1000000) :
    Calls Try.prog 87 #[v] w fun e w' => ∃ v', e = .returned v' ∧ Own w' w.heap.size v' (lowL xs) ∧ (Below w.heap.size w w' ∧ (xs ≠ [] → v' ≠ .slice none 0 0)) := by
  have HR := Lib.hid h
  obtain ⟨A, c, rfl, hl1, hm1, hc1⟩ := h
  unfold maxLen at hm1
  have HB0 := Lib.hid h0
  generalize hn : xs.length = n at *
  have H1 := Lib.hid hn
  have H3 := Lib.hid hc1
  clear hn hc1 h0
  go_enter Try.func87, Try.ntmps87
  go_wp2
  go_loopw [3, 11] (fun s i wr => ∃ k q : Nat, k ≤ n ∧ i = .int .i64 k ∧ s = .int .i64 (gcdL (xs.take k)) ∧ wr = w.drewN q) (fun _ i _ => n - (intOf i).toNat)
  case atStart => exact ⟨0, 0, by omega, rfl, rfl, rfl⟩
  case round =>
    obtain ⟨k, q, hk, rfl, rfl, rfl⟩ := hrel
    by_cases hlt : k < n
    · obtain ⟨b, off, rfl, hbb, hx⟩ := H3.out (by omega)
      have hxk := hx k hlt
      have hbd := HB0.out (xs[k]?.getD 0) (by rw [List.getElem?_eq_getElem (by rw [H1.out]; exact hlt)]; exact List.getElem_mem _)
      have hgb : gcdL (xs.take k) ≤ 4611686018427387904 := gcdL_le _ fun x hx => by have := HB0.out x (List.mem_of_mem_take hx); omega
      have hst := take_snoc (by rw [H1.out]; exact hlt : k < xs.length)
      have hgs : gcdL (xs.take (k + 1)) = Nat.gcd (gcdL (xs.take k)) (xs[k]?.getD 0).toNat := by rw [hst, gcdL_snoc]
      have HG := Lib.hid hgs
      clear hx hst hgs
      generalize hg : gcdL (xs.take k) = g at *
      have HGG := Lib.hid hg
      clear hg
      obtain ⟨y, hy⟩ : ∃ y : Nat, xs[k]?.getD 0 = (y : Int) := ⟨(xs[k]?.getD 0).toNat, by omega⟩
      have hxk' : w.cell? ⟨b, off + k, none⟩ = some (.int .i64 (y : Int)) := by rw [hxk, List.getD_eq_getElem?_getD, hy]
      rw [hy] at hbd
      have HG' : Hid (gcdL (xs.take (k + 1)) = Nat.gcd g y) := by have := HG.out; rw [hy] at this; exact this
      clear hxk hy HG
      go_wp2
      go_loopw [3, 5] (fun s t wr => ∃ x z q : Nat, s = .int .i64 x ∧ t = .int .i64 z ∧ x ≤ 4611686018427387904 ∧ z ≤ 4611686018427387904 ∧ wr = w.drewN q ∧ Hid (Nat.gcd x z = Nat.gcd g y)) (fun _ t _ => (intOf t).toNat)
      case atStart => exact ⟨g, y, q, rfl, rfl, hgb, by omega, rfl, rfl⟩
      case round =>
        obtain ⟨x, z, q', rfl, rfl, hx, hz, rfl, HE⟩ := hrel
        by_cases h0 : 0 < z
        · have hz1 : (1 : Int) ≤ (z : Int) := by omega
          have hzne : ((z : Int) != 0) = true := by simp; omega
          have hlt' := Nat.mod_lt x h0
          go_wp2
          go_region
          all_goals
            go_wp2
            go_roundw
            case rel => exact ⟨z, x % z, q' + 1, rfl, by go_num, hz, by omega, rfl, (gcd_step x z).trans HE.out⟩
            case measure => simp [intOf]; omega
        · obtain rfl : z = 0 := by omega
          go_wp2
          go_roundw
          case rel =>
            refine ⟨k + 1, q', by omega, by go_num, ?_, rfl⟩
            have := HE.out
            rw [Nat.gcd_zero_right] at this
            rw [HG'.out, this]
          case measure => simp [intOf]; omega
    · obtain rfl : k = n := by omega
      have ht : xs.take k = xs := List.take_of_length_le (by rw [H1.out]; exact Nat.le_refl _)
      have hg1 : 1 ≤ gcdL xs := by omega
      have hgb : gcdL xs ≤ 4611686018427387904 := gcdL_le _ fun x hx => by have := HB0.out x hx; omega
      rw [ht]
      have HGX := Lib.hid (rfl : gcdL xs = gcdL xs)
      have HLW : Hid (lowL xs = xs.map fun x => x / (gcdL xs : Int)) := rfl
      clear hne
      generalize hg : gcdL xs = g at *
      clear hg HGX
      go_wp2
      go_loopw [6, 24] (fun s i wr => ∃ j : Nat, j ≤ k ∧ i = .int .i64 j ∧ Own wr w.heap.size s ((xs.take j).map fun x => x / (g : Int)) ∧ (0 < j → s ≠ .slice none 0 0) ∧ Below w.heap.size w wr) (fun _ i _ => k - (intOf i).toNat)
      case atStart => exact ⟨0, by omega, rfl, Own.nil_ _ _, fun h => absurd h (by omega), below_drewN (Below.refl _ _) _⟩
      case round =>
        obtain ⟨j, hj, rfl, hown, hnn, hb⟩ := hrel
        by_cases hlt' : j < k
        · obtain ⟨b, off, rfl, hbb, hx⟩ := H3.out (by omega)
          have hxj : wr.cell? ⟨b, off + j, none⟩ = some (.int .i64 (xs.getD j 0)) := (hb.cell (by exact hbb)).trans (hx j hlt')
          have hbd := HB0.out (xs[j]?.getD 0) (by rw [List.getElem?_eq_getElem (by rw [H1.out]; exact hlt')]; exact List.getElem_mem _)
          have hl2 : ((xs.take j).map fun x => x / (g : Int)).length ≤ 1000000 := by rw [List.length_map, List.length_take]; omega
          have hbs := hb.size
          have HO := Lib.hid hown
          have HB := Lib.hid hb
          have HNN := Lib.hid hnn
          clear hx hown hb hnn
          go_wp2_with (at_builtin; refine wp_append1 _ rfl (.tmp 28) (.tmp 32) rfl w.heap.size _ _ _ rfl HO.out rfl (by omega) (by omega) ?_; intro v' w1 hown1 hg1)
          have hb1 := below_append HB.out hg1 HO.out (Nat.le_refl _) hbs
          go_roundw
          case rel =>
            refine ⟨j + 1, by omega, by go_num, ?_, fun _ => ?_, hb1⟩
            · rw [map_take_succ' _ (by rw [H1.out]; exact hlt')]
              exact hown1
            · rintro rfl
              rcases hown1.2 with ⟨_, h2⟩ | ⟨_, _, _, h2, _⟩
              · simp at h2
              · cases h2
          case measure => simp [intOf]; omega
        · obtain rfl : j = k := by omega
          go_wp2
          go_ret
          refine ⟨_, rfl, ?_, hb, fun hne => hnn ?_⟩
          · rw [HLW.out]
            rwa [ht] at hown
          · have : xs.length ≠ 0 := fun h => hne (List.eq_nil_of_length_eq_zero h)
            rw [H1.out] at this
            omega
end Go.Proofs.Ytajeledbmnndmaa

namespace Go.Proofs.Ytajeledbmnndmaa
set_option maxRecDepth 100000
def pfBd : Nat → Nat
  | 0 => 1
  | 1 => 1
  | n + 2 => (n + 1) * pfBd n
theorem pfS_facts (A : Nat → Nat → Int) (h : Nat) (F : List Nat → Int) (B : Nat) : ∀ (t pre : List Nat) (s : Int), (s = 1 ∨ s = -1) → (∀ x ∈ t, A h x = 1 ∨ A h x = -1) →
    (∀ l1 x l2, pre ++ t = l1 ++ x :: l2 → F (l1 ++ l2) % 2 = 1 ∧ -(B : Int) ≤ F (l1 ++ l2) ∧ F (l1 ++ l2) ≤ B) →
    pfS A h F pre t s % 2 = (t.length : Int) % 2 ∧ -((t.length * B : Nat) : Int) ≤ pfS A h F pre t s ∧ pfS A h F pre t s ≤ ((t.length * B : Nat) : Int) := by
  intro t
  induction t with
  | nil => intro pre s _ _ _; simp [pfS]
  | cons x t ih =>
    intro pre s hs hA hF
    obtain ⟨h1, h2, h3⟩ := ih (pre ++ [x]) (-s) (by omega) (fun y hy => hA y (by simp [hy])) (fun l1 y l2 e => hF l1 y l2 (by simpa using e))
    obtain ⟨f1, f2, f3⟩ := hF pre x t rfl
    have ha := hA x (by simp)
    rw [pfS, List.length_cons, Nat.succ_mul]
    generalize pfS A h F (pre ++ [x]) t (-s) = Z at *
    generalize F (pre ++ t) = Y at *
    generalize hLB : t.length * B = LB at *
    generalize t.length = L at *
    rcases hs with rfl | rfl <;> rcases ha with ha | ha <;> rw [ha] <;> push_cast <;> omega
theorem pfF_facts {A : Nat → Nat → Int} {m : Nat} (hA : SkT A m) : ∀ (f : Nat) (l : List Nat), l.length ≤ f → l.length % 2 = 0 → l.Nodup → (∀ x ∈ l, x < m) →
    pfF A f l % 2 = 1 ∧ -(pfBd l.length : Int) ≤ pfF A f l ∧ pfF A f l ≤ pfBd l.length := by
  intro f
  induction f using Nat.strongRecOn with
  | _ f ih =>
    intro l hl hev hnd hm
    match f, l, hl, hev, hnd, hm with
    | 0, [], _, _, _, _ => simp [pfF, pfBd]
    | 0, _ :: _, hl, _, _, _ => simp at hl
    | f + 1, [], _, _, _, _ => simp [pfF, pfBd]
    | f + 1, [h], _, hev, _, _ => simp at hev
    | f + 1, h :: x :: t, hl, hev, hnd, hm =>
      have hnd' := List.nodup_cons.1 hnd
      have := pfS_facts A h (pfF A f) (pfBd t.length) (x :: t) [] 1 (.inl rfl) (fun y hy => by
        refine hA.one h y (hm h (by simp)) (hm y (List.mem_cons_of_mem _ hy)) fun e => ?_
        subst e; exact hnd'.1 hy) (fun l1 y l2 e => by
        have e : x :: t = l1 ++ y :: l2 := by simpa using e
        have hlen : (l1 ++ l2).length = t.length := by
          have := congrArg List.length e
          simp at this ⊢; omega
        have hsub : (l1 ++ l2).Sublist (x :: t) := by rw [e]; exact (List.Sublist.refl l1).append (List.sublist_cons_self y l2)
        have := ih f (by omega) (l1 ++ l2) (by rw [hlen]; simp at hl; omega) (by rw [hlen]; simp at hev; omega) (hsub.nodup hnd'.2) (fun z hz => hm z (List.mem_cons_of_mem _ (hsub.subset hz)))
        rw [hlen] at this
        exact this)
      simp only [pfF]
      simp only [List.length_cons] at this hev ⊢
      refine ⟨by omega, ?_⟩
      exact this.2
theorem pfV_facts {A : Nat → Nat → Int} {m : Nat} (hA : SkT A m) (hm : m % 2 = 1) (h7 : m ≤ 7) {i : Nat} (hi : i < m) : pfV A m i % 2 = 1 ∧ -15 ≤ pfV A m i ∧ pfV A m i ≤ 15 := by
  have hsub : ((List.range m).eraseIdx i).Sublist (List.range m) := List.eraseIdx_sublist _ _
  have hlen : ((List.range m).eraseIdx i).length = m - 1 := by rw [List.length_eraseIdx_of_lt (by simpa using hi)]; simp
  have h := pfF_facts hA m ((List.range m).eraseIdx i) (by omega) (by omega) (hsub.nodup List.nodup_range) (fun x hx => by simpa using hsub.subset hx)
  rw [hlen] at h
  have hb : pfBd (m - 1) ≤ 15 := by
    have : m = 1 ∨ m = 3 ∨ m = 5 ∨ m = 7 := by omega
    rcases this with rfl | rfl | rfl | rfl <;> decide
  unfold pfV
  split <;> omega
theorem pf_ker {A : Nat → Nat → Int} {m : Nat} (hA : SkT A m) (hm : m % 2 = 1) (h7 : m ≤ 7) : kerV A m (pfV A m) := by
  have : m = 1 ∨ m = 3 ∨ m = 5 ∨ m = 7 := by omega
  rcases this with rfl | rfl | rfl | rfl
  · exact pf_ker1 hA
  · exact pf_ker3 hA
  · exact pf_ker5 hA
  · exact pf_ker7 hA
/-! positive, without common divisor -/
theorem gcdL_great {xs : List Int} {d : Nat} : (∀ x ∈ xs, d ∣ x.toNat) → d ∣ gcdL xs := by
  unfold gcdL
  have : ∀ (xs : List Int) (g : Nat), d ∣ g → (∀ x ∈ xs, d ∣ x.toNat) → d ∣ xs.foldl (fun g x => Nat.gcd g x.toNat) g := by
    intro xs
    induction xs with
    | nil => intro g h _; exact h
    | cons x xs ih => intro g h hx; exact ih _ (Nat.dvd_gcd h (hx x (by simp))) fun y hy => hx y (by simp [hy])
  exact this xs 0 (Nat.dvd_zero _)
theorem gcdL_mul (xs : List Int) (c : Nat) : gcdL (xs.map fun x => (c : Int) * x) = c * gcdL xs := by
  unfold gcdL
  have : ∀ (xs : List Int) (g : Nat), (xs.map fun x => (c : Int) * x).foldl (fun g x => Nat.gcd g x.toNat) (c * g) = c * xs.foldl (fun g x => Nat.gcd g x.toNat) g := by
    intro xs
    induction xs with
    | nil => intro g; rfl
    | cons x xs ih =>
      intro g
      rw [List.map_cons, List.foldl_cons, List.foldl_cons, ← ih]
      congr 1
      rw [show ((c : Int) * x).toNat = c * x.toNat by
        rcases Int.le_total 0 x with h | h
        · obtain ⟨y, rfl⟩ := Int.eq_ofNat_of_zero_le h
          rw [← Int.natCast_mul]; rfl
        · have h1 : (c : Int) * x ≤ 0 := Int.mul_nonpos_of_nonneg_of_nonpos (by omega) h
          rw [Int.toNat_of_nonpos h1, Int.toNat_of_nonpos h, Nat.mul_zero], Nat.gcd_mul_left]
  simpa using this xs 0
theorem gcdL_pos {xs : List Int} (h : ∃ x ∈ xs, 0 < x) : 0 < gcdL xs := by
  obtain ⟨x, hx, h0⟩ := h
  rcases Nat.eq_zero_or_pos (gcdL xs) with h1 | h1
  · have := gcdL_dvd xs x hx
    rw [h1] at this
    have := Nat.eq_zero_of_zero_dvd this
    omega
  · exact h1
/-- proportional rows come down to the same lowest row -/
theorem low_eq {xs ys : List Int} {c d : Nat} (hc : 0 < c) (hd : 0 < d) (he : xs.map (fun x => (c : Int) * x) = ys.map fun x => (d : Int) * x) : lowL xs = lowL ys := by
  have hlen : xs.length = ys.length := by have := congrArg List.length he; simpa using this
  have hgg : c * gcdL xs = d * gcdL ys := by rw [← gcdL_mul, ← gcdL_mul, he]
  unfold lowL
  refine List.ext_getElem (by simp [hlen]) fun i h1 h2 => ?_
  simp only [List.length_map] at h1 h2
  rw [List.getElem_map, List.getElem_map]
  have hi : (c : Int) * xs[i] = (d : Int) * ys[i] := by
    have := congrArg (fun l => l.getD i 0) he
    simpa [h1, h2] using this
  have hG : (c : Int) * (gcdL xs : Int) = (d : Int) * (gcdL ys : Int) := by exact_mod_cast hgg
  have e1 : xs[i] / (gcdL xs : Int) = ((c : Int) * xs[i]) / ((c : Int) * (gcdL xs : Int)) := (Int.mul_ediv_mul_of_pos _ _ (by omega)).symm
  have e2 : ys[i] / (gcdL ys : Int) = ((d : Int) * ys[i]) / ((d : Int) * (gcdL ys : Int)) := (Int.mul_ediv_mul_of_pos _ _ (by omega)).symm
  rw [e1, e2, hi, hG]
end Go.Proofs.Ytajeledbmnndmaa

namespace Go.Proofs.Ytajeledbmnndmaa
open Go.RowKit

theorem ofInt_i64 (a : Nat) (ha : a < 9223372036854775808) : (BitVec.ofInt 64 (a : Int)).toNat = a := by
  rw [BitVec.ofInt_natCast, BitVec.toNat_ofNat]; exact Nat.mod_eq_of_lt (by omega)
theorem i64_and_nat (a b : Nat) (ha : a < 9223372036854775808) (hb : b < 9223372036854775808) : bits .and .i64 (a : Int) (b : Int) = ((a &&& b : Nat) : Int) := by
  have hx : a &&& b < 2 ^ 63 := Nat.and_lt_two_pow _ (by omega)
  show IntKind.i64.wrap ((BitVec.ofInt 64 (a : Int) &&& BitVec.ofInt 64 (b : Int)).toNat : Int) = _
  rw [BitVec.toNat_and, ofInt_i64 a ha, ofInt_i64 b hb, IntKind.wrap_i64]
  omega
theorem i64_or_nat (a b : Nat) (ha : a < 9223372036854775808) (hb : b < 9223372036854775808) : bits .or .i64 (a : Int) (b : Int) = ((a ||| b : Nat) : Int) := by
  have hx : a ||| b < 2 ^ 63 := Nat.or_lt_two_pow (by omega) (by omega)
  show IntKind.i64.wrap ((BitVec.ofInt 64 (a : Int) ||| BitVec.ofInt 64 (b : Int)).toNat : Int) = _
  rw [BitVec.toNat_or, ofInt_i64 a ha, ofInt_i64 b hb, IntKind.wrap_i64]
  omega
theorem i64_xor_nat (a b : Nat) (ha : a < 9223372036854775808) (hb : b < 9223372036854775808) : bits .xor .i64 (a : Int) (b : Int) = ((a ^^^ b : Nat) : Int) := by
  have hx : a ^^^ b < 2 ^ 63 := Nat.xor_lt_two_pow (by omega) (by omega)
  show IntKind.i64.wrap ((BitVec.ofInt 64 (a : Int) ^^^ BitVec.ofInt 64 (b : Int)).toNat : Int) = _
  rw [BitVec.toNat_xor, ofInt_i64 a ha, ofInt_i64 b hb, IntKind.wrap_i64]
  omega
/-- what is in a and not in b -/
def less (a b : Nat) : Nat := a ^^^ (a &&& b)
theorem testBit_less (a b i : Nat) : (less a b).testBit i = (a.testBit i && !b.testBit i) := by
  unfold less; rw [Nat.testBit_xor, Nat.testBit_and]; cases a.testBit i <;> cases b.testBit i <;> rfl
theorem i64_andNot_nat (a b : Nat) (ha : a < 9223372036854775808) (hb : b < 9223372036854775808) : bits .andNot .i64 (a : Int) (b : Int) = ((less a b : Nat) : Int) := by
  have e : (BitVec.ofInt 64 (a : Int) &&& ~~~BitVec.ofInt 64 (b : Int)).toNat = less a b := by
    apply Nat.eq_of_testBit_eq
    intro i
    rw [testBit_less, BitVec.toNat_and, Nat.testBit_and, ofInt_i64 a ha]
    rcases Nat.lt_or_ge i 64 with hi | hi
    · congr 1
      rw [BitVec.testBit_toNat, BitVec.getLsbD_not, ← BitVec.testBit_toNat, ofInt_i64 b hb]
      simp [hi]
    · rw [Nat.testBit_lt_two_pow (Nat.lt_of_lt_of_le ha (Nat.le_trans (by decide : 9223372036854775808 ≤ 2 ^ 64) (Nat.pow_le_pow_right (by decide) hi)))]
      simp
  have hx : less a b < 2 ^ 63 := Nat.xor_lt_two_pow (by omega) (Nat.and_lt_two_pow _ (by omega))
  show IntKind.i64.wrap ((BitVec.ofInt 64 (a : Int) &&& ~~~BitVec.ofInt 64 (b : Int)).toNat : Int) = _
  rw [e, IntKind.wrap_i64]
  omega
theorem i64_and_one (x : Int) : bits .and .i64 x 1 = x % 2 := by
  have h : (BitVec.ofInt 64 x &&& BitVec.ofInt 64 1).toNat = (x % 2).toNat := by
    rw [BitVec.toNat_and, show (BitVec.ofInt 64 1).toNat = 1 from rfl, Nat.and_one_is_mod, BitVec.toNat_ofInt]
    omega
  show IntKind.i64.wrap ((BitVec.ofInt 64 x &&& BitVec.ofInt 64 1).toNat : Int) = _
  rw [h, IntKind.wrap_i64]
  omega
/-- '1 << k' for a small k -/
theorem i64_shl_one (k : Nat) (hk : k ≤ 62) : IntKind.i64.wrap (1 * 2 ^ k) = ((2 ^ k : Nat) : Int) := by
  have h1 : 2 ^ k ≤ 2 ^ 62 := Nat.pow_le_pow_right (by decide) hk
  have h2 : ((2 : Int) ^ k) = ((2 ^ k : Nat) : Int) := by simp
  rw [Int.one_mul, h2, IntKind.wrap_i64]
  rw [show (2 : Nat) ^ 62 = 4611686018427387904 from by decide] at h1
  generalize 2 ^ k = p at *
  omega
theorem testBit_iff (n k : Nat) : n.testBit k = decide ((n : Int) / 2 ^ k % 2 = 1) := by
  rw [Nat.testBit_eq_decide_div_mod_eq]
  have h : ((n : Int) / 2 ^ k % 2) = ((n / 2 ^ k % 2 : Nat) : Int) := by simp
  rw [h]
  congr 1
  apply propext
  omega
/-- 'S>>d&1 == 1' as the walk has it -/
theorem bit_test (S d : Nat) : (bits BinOp.and IntKind.i64 ((S : Int) / 2 ^ d) 1 == 1) = S.testBit d := by
  rw [i64_and_one, testBit_iff, Bool.eq_iff_iff]
  simp
theorem wrap64_nat (n : Nat) (h : n < 9223372036854775808) : wrap64 (n : Int) = n := IntWalk.wrap64_in _ (by omega)
/-- 'S + 1<<d' -/
theorem add_shl (S d : Nat) (hS : S < 4611686018427387904) (hd : d ≤ 61) : wrap64 ((S : Int) + wrap64 (2 ^ d)) = ((S + 2 ^ d : Nat) : Int) := by
  have h1 : 2 ^ d ≤ 2 ^ 61 := Nat.pow_le_pow_right (by decide) hd
  rw [show (2 : Nat) ^ 61 = 2305843009213693952 from by decide] at h1
  have h2 : ((2 : Int) ^ d) = ((2 ^ d : Nat) : Int) := by simp
  rw [h2]
  generalize 2 ^ d = p at *
  rw [wrap64_nat _ (by omega), ← Int.natCast_add, wrap64_nat _ (by omega)]
/-- a new greatest element -/
theorem testBit_add_top (S d m : Nat) (h : S < 2 ^ d) : (S + 2 ^ d).testBit m = (S.testBit m || decide (d = m)) := by
  have := Nat.two_pow_add_eq_or_of_lt h 1
  rw [Nat.mul_one] at this
  rw [Nat.add_comm, this, Nat.testBit_or, Nat.testBit_two_pow, Bool.or_comm]
theorem lt_of_testBit {S d : Nat} (h : ∀ m, d ≤ m → S.testBit m = false) : S < 2 ^ d := Nat.lt_pow_two_of_testBit S fun m hm => h m hm
end Go.Proofs.Ytajeledbmnndmaa

namespace Go.Proofs.Ytajeledbmnndmaa
open Go.RowKit Go.Sort

/-- digit number b of x -/
def bitI (x : Int) (b : Nat) : Bool := decide (x / 2 ^ b % 2 = 1)
theorem bit_walk (x : Int) (b : Nat) : (bits BinOp.and IntKind.i64 (x / 2 ^ b) 1 == 1) = bitI x b := by
  rw [i64_and_one, bitI, Bool.eq_iff_iff]; simp
set_option maxHeartbeats 400000 in
theorem has_any (s : Int) (sl : Value) (a : Int) (w : World) (hs : -1000 ≤ s ∧ s ≤ 1000) :
    Calls Try.prog 81 #[.agg #[.int .i64 s, sl], .int .i64 a] w fun e w' => e = .returned (.bool (inB a 0 (s - 1))) ∧ Below w.heap.size w w' := by
  go_enter Try.func81, Try.ntmps81
  go_wp2_with (go_at_call 86; refine (within_any _ _ _ _).mono ?_; rintro e w1 ⟨rfl, rfl⟩)
  go_ret
  exact ⟨rfl, below_alloc1 _ _⟩
set_option maxHeartbeats 400000 in
theorem beats_any (s : Int) (sl : Value) (xs : List Int) (a b : Int) (w : World) (h : Rd w sl xs) (ha : 0 ≤ a) (ha2 : a < xs.length) (hb : 0 ≤ b) (hb2 : b ≤ 63) :
    Calls Try.prog 92 #[.agg #[.int .i64 s, sl], .int .i64 a, .int .i64 b] w fun e w' => e = .returned (.bool (bitI (xs.getD a.toNat 0) b.toNat)) ∧ Below w.heap.size w w' := by
  obtain ⟨A, c, rfl, hl1, hm1, hc1⟩ := h
  unfold maxLen at hm1
  obtain ⟨a, rfl⟩ := Int.eq_ofNat_of_zero_le ha
  obtain ⟨b, rfl⟩ := Int.eq_ofNat_of_zero_le hb
  obtain ⟨g, off, rfl, hg, hx⟩ := hc1 (by omega)
  have hxa := hx a (by omega)
  have hxa' : (w.alloc (.cells #[.int .i64 s, .slice (some ⟨g, off, none⟩) xs.length c] 28)).cell? ⟨g, off + a, none⟩ = some (.int .i64 (xs.getD a 0)) := by
    rw [World.cell?_alloc_lt _ _ _ (by exact hg)]; exact hxa
  generalize hn : xs.length = n at *
  have HN := Lib.hid hn
  clear hx hxa hn
  go_enter Try.func92, Try.ntmps92
  go_wp2
  go_ret
  refine ⟨ret_bool ?_, below_alloc1 _ _⟩
  rw [bit_walk]
  simp
set_option maxHeartbeats 400000 in
theorem l02Beats_any (s : Int) (sl : Value) (xs : List Int) (a b : Int) (w : World) (h : Rd w sl xs) (ha : 0 ≤ a) (ha2 : a < xs.length) (hb : 0 ≤ b) (hb2 : b ≤ 63) :
    Calls Try.prog 117 #[.agg #[.int .i64 s, sl], .int .i64 a, .int .i64 b] w fun e w' => e = .returned (.bool (bitI (xs.getD a.toNat 0) b.toNat)) ∧ Below w.heap.size w w' := by
  obtain ⟨A, c, rfl, hl1, hm1, hc1⟩ := h
  unfold maxLen at hm1
  obtain ⟨a, rfl⟩ := Int.eq_ofNat_of_zero_le ha
  obtain ⟨b, rfl⟩ := Int.eq_ofNat_of_zero_le hb
  obtain ⟨g, off, rfl, hg, hx⟩ := hc1 (by omega)
  have hxa := hx a (by omega)
  have hxa' : (w.alloc (.cells #[.int .i64 s, .slice (some ⟨g, off, none⟩) xs.length c] 28)).cell? ⟨g, off + a, none⟩ = some (.int .i64 (xs.getD a 0)) := by
    rw [World.cell?_alloc_lt _ _ _ (by exact hg)]; exact hxa
  generalize hn : xs.length = n at *
  have HN := Lib.hid hn
  clear hx hxa hn
  go_enter Try.func117, Try.ntmps117
  go_wp2
  go_ret
  refine ⟨ret_bool ?_, below_alloc1 _ _⟩
  rw [bit_walk]
  simp
end Go.Proofs.Ytajeledbmnndmaa

