/- Slices of slices of ints of the call's own. -/
import Derived.Test.YtdmneccfbfdloaaApp
import Derived.Test.YtdmneccfbfdloaaOwn0
import Derived.Test.YtdmneccfbfdloaaBox
namespace Go.Proofs.Ytdmneccfbfdloaa
open Go.RowKit Go.Sort
set_option maxRecDepth 100000
theorem rows_info : (Try.prog.info? 22).map (fun i => (i.zero, i.size, i.bytes)) = some (some (.slice none 0 0), 1, 24) := by kernel_rfl
theorem ownsRow_below {w w' : World} {base size n : Nat} {e : TypeId} {v : Value} {xs : List Value} (h : w.ownsRow base e size v n xs) (hb : Below w.heap.size w w') : w'.ownsRow base e size v n xs := by
  refine ⟨h.1, ?_⟩
  rcases h.2 with h0 | ⟨g, cap, cur, hv, hg, hh, r⟩
  · exact .inl h0
  · exact .inr ⟨g, cap, cur, hv, hg, by rw [hb.block g (Array.getElem?_eq_some_iff.1 hh).1]; exact hh, r⟩
theorem ownsRow_mono {w : World} {base b' size n : Nat} {e : TypeId} {v : Value} {xs : List Value} (h : w.ownsRow base e size v n xs) (hb : b' ≤ base) : w.ownsRow b' e size v n xs := by
  refine ⟨h.1, ?_⟩
  rcases h.2 with h0 | ⟨g, cap, cur, hv, hg, r⟩
  · exact .inl h0
  · exact .inr ⟨g, cap, cur, hv, by omega, r⟩
/-- rows of different element types lie in different blocks -/
theorem types_part {w : World} {b1 b2 s1 s2 n1 n2 : Nat} {e1 e2 : TypeId} {v1 v2 : Value} {x1 x2 : List Value} (h1 : w.ownsRow b1 e1 s1 v1 n1 x1) (h2 : w.ownsRow b2 e2 s2 v2 n2 x2) (hne : e1 ≠ e2) : v1.ownBlock = none ∨ v1.ownBlock ≠ v2.ownBlock := by
  rcases h1.2 with ⟨rfl, _⟩ | ⟨g1, c1, cur1, rfl, _, hg1, _⟩
  · exact .inl rfl
  · right
    rcases h2.2 with ⟨rfl, _⟩ | ⟨g2, c2, cur2, rfl, _, hg2, _⟩
    · simp [Value.ownBlock]
    · intro e
      simp only [Value.ownBlock, Option.some.injEq] at e
      subst e
      rw [hg1] at hg2
      simp only [Option.some.injEq, Obj.cells.injEq] at hg2
      exact hne hg2.2.1
theorem apart_symm' {a b : Option Nat} (h : a = none ∨ a ≠ b) : b = none ∨ b ≠ a := by
  rcases h with h | h
  · subst h; cases b <;> simp
  · exact .inr (Ne.symm h)
def OwnRowsU (w : World) (base : Nat) (v : Value) (us : List Value) (rows : List (List Int)) : Prop :=
  us.length = rows.length ∧ w.ownsRow base 22 1 v rows.length us ∧ (∀ k, k < rows.length → Own w base (us.getD k (.slice none 0 0)) (rows.getD k [])) ∧
    ∀ i j, i < j → j < rows.length → (us.getD i (.slice none 0 0)).ownBlock = none ∨ (us.getD i (.slice none 0 0)).ownBlock ≠ (us.getD j (.slice none 0 0)).ownBlock
def OwnRows (w : World) (base : Nat) (v : Value) (rows : List (List Int)) : Prop := ∃ us : List Value, OwnRowsU w base v us rows
theorem OwnRows.nil_ (w : World) (base : Nat) : OwnRows w base (.slice none 0 0) [] := ⟨[], rfl, World.ownsRow_nil _ _ _ _, fun k h => absurd h (by simp), fun i j _ h => absurd h (by simp)⟩
theorem OwnRows.lit0 (w : World) (base : Nat) (hb : base ≤ w.heap.size) : OwnRows (w.alloc (.cells #[] 22)) base (.slice (some ⟨w.heap.size, 0, none⟩) 0 0) [] := by
  have := World.ownsRow_lit (e := 22) (size := 1) w #[] 0 hb (by unfold maxLen; omega) (by simp)
  exact ⟨[], rfl, by simpa using this, fun k h => absurd h (by simp), fun i j _ h => absurd h (by simp)⟩
theorem OwnRowsU.below {w w' : World} {base : Nat} {v : Value} {us : List Value} {rows : List (List Int)} (h : OwnRowsU w base v us rows) (hb : Below w.heap.size w w') : OwnRowsU w' base v us rows := by
  obtain ⟨hl, ho, hr, hd⟩ := h
  exact ⟨hl, ownsRow_below ho hb, fun k hk => (hr k hk).below hb, hd⟩
theorem OwnRows.below {w w' : World} {base : Nat} {v : Value} {rows : List (List Int)} (h : OwnRows w base v rows) (hb : Below w.heap.size w w') : OwnRows w' base v rows := by
  obtain ⟨us, h⟩ := h
  exact ⟨us, h.below hb⟩
theorem OwnRows.mono {w : World} {base b' : Nat} {v : Value} {rows : List (List Int)} (h : OwnRows w base v rows) (hb : b' ≤ base) : OwnRows w b' v rows := by
  obtain ⟨us, hl, ho, hr, hd⟩ := h
  exact ⟨us, hl, ownsRow_mono ho hb, fun k hk => (hr k hk).mono hb, hd⟩
/-- a change of one block that is not among these rows: one that is older than all of them -/
theorem OwnRows.kept_lo {w w' : World} {base : Nat} {v : Value} {rows : List (List Int)} (h : OwnRows w base v rows) {row : Option Nat} (hg : w.grownBy w' row) (hlt : ∀ g, row = some g → g < base) : OwnRows w' base v rows := by
  obtain ⟨us, hl, ho, hr, hd⟩ := h
  have key : ∀ {u : Value}, (∀ k, u.ownBlock = some k → base ≤ k ∧ k < w.heap.size) → u.ownBlock = none ∨ u.ownBlock ≠ row := by
    intro u hu
    rcases q : u.ownBlock with _ | k
    · exact .inl rfl
    · right
      intro e
      have := (hu k q).1
      have := hlt k e.symm
      omega
  exact ⟨us, hl, World.ownsRow.kept ho hg (key (World.ownsRow.lt ho)), fun k hk => (hr k hk).kept hg (key (hr k hk).lt), hd⟩
theorem OwnRows.lt {w : World} {base : Nat} {v : Value} {rows : List (List Int)} (h : OwnRows w base v rows) : ∀ k, v.ownBlock = some k → base ≤ k ∧ k < w.heap.size := by
  obtain ⟨us, hl, ho, hr, hd⟩ := h
  exact World.ownsRow.lt ho
/-- a row is changed in place -/
theorem OwnRowsU.row {w w' : World} {base : Nat} {v : Value} {us : List Value} {rows : List (List Int)} (h : OwnRowsU w base v us rows) {i : Nat} {ys : List Int} (hi : i < rows.length)
    (ho' : Own w' base (us.getD i (.slice none 0 0)) ys) (hg : w.grownBy w' (us.getD i (.slice none 0 0)).ownBlock) : OwnRowsU w' base v us (rows.set i ys) := by
  obtain ⟨hl, ho, hr, hd⟩ := h
  refine ⟨by simp [hl], ?_, fun k hk => ?_, fun a b hab hb => hd a b hab (by simpa using hb)⟩
  · rw [List.length_set]
    exact World.ownsRow.kept ho hg (apart_symm' (types_part (hr i hi) ho (by decide)))
  · rw [List.length_set] at hk
    by_cases hik : i = k
    · subst hik
      rw [show (rows.set i ys).getD i [] = ys by simp [List.getD_eq_getElem?_getD, hk]]
      exact ho'
    · rw [show (rows.set i ys).getD k [] = rows.getD k [] by simp [List.getD_eq_getElem?_getD, List.getElem?_set_ne hik]]
      refine (hr k hk).kept hg ?_
      rcases Nat.lt_or_gt_of_ne hik with h1 | h1
      · exact apart_symm' (hd i k h1 hk)
      · exact hd k i h1 hi
theorem OwnRows.form {w : World} {base : Nat} {v : Value} {rows : List (List Int)} (h : OwnRows w base v rows) : ∃ A c, v = .slice A rows.length c ∧ c ≤ maxLen ∧ rows.length ≤ c ∧
    (0 < rows.length → ∃ g, A = some ⟨g, 0, none⟩ ∧ g < w.heap.size ∧ ∀ k, k < rows.length → ∃ (B : Option Addr) (d : Nat), w.cell? ⟨g, k, none⟩ = some (.slice B (rows.getD k []).length d) ∧ Own w base (.slice B (rows.getD k []).length d) (rows.getD k [])) := by
  obtain ⟨us, hl, ho, hr, -⟩ := h
  have hlt := World.ownsRow.lt ho
  have hc := fun g hg => World.ownsRow.cells ho (g := g) hg
  rcases ho.2 with ⟨rfl, e⟩ | ⟨g, cap, cur, rfl, hb, hg, hle, hm, _⟩
  · exact ⟨none, 0, by rw [e], by unfold maxLen; omega, by omega, fun h => absurd h (by omega)⟩
  · refine ⟨_, cap, rfl, hm, hle, fun _ => ⟨g, rfl, (hlt g rfl).2, fun k hk => ?_⟩⟩
    have h1 := hc g rfl k (us.getD k (.slice none 0 0)) (by simp [show k < us.length by omega])
    rw [Addr.add_lit, Nat.zero_add] at h1
    have h2 := hr k hk
    obtain ⟨B, d, e, _⟩ := h2.form
    rw [e] at h1 h2
    exact ⟨B, d, h1, h2⟩
theorem wp_append1V {ops : Array Oper} {rest : List Oper} {o : Oper} {a : Act} {Q : Exit → Act → World → Prop} (w : World) (hgd : o.guard = none) (s x : Operand)
    (ho : o.op = .call { callee := .builtin .append, args := #[s, x], argTypes := #[27, 27] })
    (base : Nat) (v : Value) (rows : List (List Int)) (u : Value) (xs : List Int) (w0 : World) (hs : a.eval s = v) (hown0 : OwnRows w0 base v rows) (hb0 : Below w0.heap.size w0 w) (hu0 : Own w w0.heap.size u xs) (hbase0 : base ≤ w0.heap.size) (hx : a.eval x = .slice (some ⟨w.heap.size, 0, none⟩) 1 1)
    (hlen : rows.length ≤ 1048576)
    (h : ∀ v' w', OwnRows w' base v' (rows ++ [xs]) → w.grownBy w' v.ownBlock → wpList Try.prog ops Q rest (a.put o.dst v') w') :
    wpList Try.prog ops Q (o :: rest) a (w.alloc (.cells #[u] 22)) := by
  obtain ⟨i0, hi, hz0, hz1, hz2⟩ := info_parts rows_info
  have hu := hu0.mono hbase0
  have hbase : base ≤ w.heap.size := Nat.le_trans hbase0 hb0.size
  obtain ⟨us, hown0⟩ := hown0
  have hlt0 : ∀ k, k < rows.length → ∀ g, (us.getD k (.slice none 0 0)).ownBlock = some g → g < w0.heap.size := fun k hk g hg => ((hown0.2.2.1 k hk).lt g hg).2
  obtain ⟨hl, hor, hr, hd⟩ := hown0.below hb0
  have hor' : (w.alloc (.cells #[u] 22)).ownsRow base 22 1 v rows.length us := World.ownsRow.alloc hor _
  refine wpList_append_own _ hgd s x 27 ho base 22 i0 (.slice none 0 0) 1 24 Try.underlying27 hi hz0 hz1 hz2 rfl (by decide) v rows.length us hs hor' ⟨w.heap.size, 0, none⟩ 1 1 [u] hx rfl ?_ ?_ ?_ ?_ ?_ ?_
  · intro j y hj
    match j, hj with
    | 0, hj => simp at hj; subst hj; simp [Addr.add]
  · intro y hy
    simp at hy
    subst hy
    obtain ⟨B, d, e, _⟩ := hu.form
    rw [e]; rfl
  · unfold maxLen; omega
  · omega
  · simp; omega
  · intro v' w' h1 h2 _
    have h2' := grown_of_alloc h2
    have e1 : ∀ k, k < rows.length → (us ++ [u]).getD k (.slice none 0 0) = us.getD k (.slice none 0 0) := fun k hk => by simp [List.getD_eq_getElem?_getD, List.getElem?_append_left (show k < us.length by omega)]
    have e2 : (us ++ [u]).getD rows.length (.slice none 0 0) = u := by simp [List.getD_eq_getElem?_getD, ← hl]
    refine h v' w' ⟨us ++ [u], by simp [hl], by rw [List.length_append]; exact h1, fun k hk => ?_, fun i j hij hj => ?_⟩ h2'
    · rw [List.length_append, List.length_singleton] at hk
      by_cases hk2 : k < rows.length
      · have e3 : (rows ++ [xs]).getD k [] = rows.getD k [] := by simp [List.getD_eq_getElem?_getD, List.getElem?_append_left hk2]
        rw [e1 k hk2, e3]
        exact (hr k hk2).kept h2' (types_part (hr k hk2) hor (by decide))
      · obtain rfl : k = rows.length := by omega
        have e3 : (rows ++ [xs]).getD rows.length [] = xs := by simp [List.getD_eq_getElem?_getD]
        rw [e2, e3]
        exact hu.kept h2' (types_part hu hor (by decide))
    · rw [List.length_append, List.length_singleton] at hj
      rw [e1 i (by omega)]
      by_cases hj2 : j < rows.length
      · rw [e1 j hj2]; exact hd i j hij hj2
      · obtain rfl : j = rows.length := by omega
        rw [e2]
        rcases q : (us.getD i (.slice none 0 0)).ownBlock with _ | g
        · exact .inl rfl
        · right
          intro e
          have := hlt0 i hij g q
          have := (hu0.lt g e.symm).1
          omega
theorem below_appendV {B : Nat} {a w w' : World} {base : Nat} {v : Value} {rows : List (List Int)} (h : Below B a w) (hg : w.grownBy w' v.ownBlock) (hown : OwnRows w base v rows) (hB : B ≤ base) (hbase : base ≤ w.heap.size) : Below B a w' :=
  h.grown hg (Nat.le_trans hB hbase) (fun k hk => Nat.le_trans hB (hown.lt k hk).1)
end Go.Proofs.Ytdmneccfbfdloaa
