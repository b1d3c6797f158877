/- Slices of slices of ints of the call's own, the rows' own blocks from another base on; a row grows and goes back into its place. -/
import Derived.Test.YtdmneccfbfdloaaRowsL
import Derived.Maps.AppendAt
namespace Go.Proofs.Ytdmneccfbfdloaa
open Go.RowKit Go.Sort
set_option maxRecDepth 100000
theorem wp_append1at {ops : Array Oper} {rest : List Oper} {o : Oper} {a : Act} {Q : Exit → Act → World → Prop} (w : World) (hgd : o.guard = none) (s x : Operand)
    (ho : o.op = .call { callee := .builtin .append, args := #[s, x], argTypes := #[22, 22] })
    (base : Nat) (v : Value) (xs : List Int) (y : Int) (hs : a.eval s = v) (hown : Own w base v xs) (hx : a.eval x = .slice (some ⟨w.heap.size, 0, none⟩) 1 1)
    (hlen : xs.length ≤ 1099511627776) (hbase : base ≤ w.heap.size)
    (h : ∀ v' w', Own w' base v' (xs ++ [y]) → w.grownBy w' v.ownBlock → (v'.ownBlock = v.ownBlock ∨ ∃ k, v'.ownBlock = some k ∧ w.heap.size ≤ k) → wpList Try.prog ops Q rest (a.put o.dst v') w') :
    wpList Try.prog ops Q (o :: rest) a (w.alloc (.cells #[.int .i64 y] 3)) := by
  obtain ⟨i0, hi, hz0, hz1, hz2⟩ := info_parts i64_info
  have hown' : (w.alloc (.cells #[.int .i64 y] 3)).ownsRow base 3 1 v xs.length (xs.map (Value.int .i64)) := World.ownsRow.alloc hown _
  refine wpList_append_own_at _ hgd s x 22 ho base 3 i0 (.int .i64 0) 1 8 Try.underlying22 hi hz0 hz1 hz2 rfl (by decide) v xs.length (xs.map (Value.int .i64)) hs hown' ⟨w.heap.size, 0, none⟩ 1 1 [.int .i64 y] hx rfl ?_ ?_ ?_ ?_ ?_ ?_
  · intro j u hj
    match j, hj with
    | 0, hj => simp at hj; subst hj; simp [Addr.add]
  · intro u hu; simp at hu; subst hu; rfl
  · unfold maxLen; omega
  · omega
  · simp; omega
  · intro v' w' h1 h2 _ h4
    refine h v' w' ?_ (grown_of_alloc h2) (h4.imp id fun e => ⟨_, e, by simp⟩)
    unfold Own
    rw [List.length_append, List.map_append]
    exact h1
def Own2U (w : World) (bo bi : Nat) (v : Value) (us : List Value) (rows : List (List Int)) : Prop :=
  us.length = rows.length ∧ w.ownsRow bo 22 1 v rows.length us ∧ (∀ k, k < rows.length → Own w bi (us.getD k (.slice none 0 0)) (rows.getD k [])) ∧
    ∀ i j, i < j → j < rows.length → (us.getD i (.slice none 0 0)).ownBlock = none ∨ (us.getD i (.slice none 0 0)).ownBlock ≠ (us.getD j (.slice none 0 0)).ownBlock
def Own2 (w : World) (bo bi : Nat) (v : Value) (rows : List (List Int)) : Prop := ∃ us : List Value, Own2U w bo bi v us rows
theorem Own2.nil_ (w : World) (bo bi : Nat) : Own2 w bo bi (.slice none 0 0) [] := ⟨[], rfl, World.ownsRow_nil _ _ _ _, fun k h => absurd h (by simp), fun i j _ h => absurd h (by simp)⟩
theorem Own2.lit0 (w : World) (bo bi : Nat) (hb : bo ≤ w.heap.size) : Own2 (w.alloc (.cells #[] 22)) bo bi (.slice (some ⟨w.heap.size, 0, none⟩) 0 0) [] := by
  have := World.ownsRow_lit (e := 22) (size := 1) w #[] 0 hb (by unfold maxLen; omega) (by simp)
  exact ⟨[], rfl, by simpa using this, fun k h => absurd h (by simp), fun i j _ h => absurd h (by simp)⟩
theorem Own2.below {w w' : World} {bo bi : Nat} {v : Value} {rows : List (List Int)} (h : Own2 w bo bi v rows) (hb : Below w.heap.size w w') : Own2 w' bo bi v rows := by
  obtain ⟨us, hl, ho, hr, hd⟩ := h
  exact ⟨us, hl, ownsRow_below ho hb, fun k hk => (hr k hk).below hb, hd⟩
theorem Own2.rows {w : World} {bo bi b : Nat} {v : Value} {rows : List (List Int)} (h : Own2 w bo bi v rows) (h1 : b ≤ bo) (h2 : b ≤ bi) : OwnRows w b v rows := by
  obtain ⟨us, hl, ho, hr, hd⟩ := h
  exact ⟨us, hl, ownsRow_mono ho h1, fun k hk => (hr k hk).mono h2, hd⟩
theorem Own2.form {w : World} {bo bi : Nat} {v : Value} {rows : List (List Int)} (h : Own2 w bo bi v rows) : ∃ A c, v = .slice A rows.length c ∧ c ≤ maxLen ∧ rows.length ≤ c ∧
    (0 < rows.length → ∃ g, A = some ⟨g, 0, none⟩ ∧ bo ≤ g ∧ g < w.heap.size) := by
  obtain ⟨us, hl, ho, hr, -⟩ := h
  have hlt := World.ownsRow.lt ho
  rcases ho.2 with ⟨rfl, e⟩ | ⟨g, cap, cur, rfl, hb, hg, hle, hm, _⟩
  · exact ⟨none, 0, by rw [e], by unfold maxLen; omega, by omega, fun h => absurd h (by omega)⟩
  · exact ⟨_, cap, rfl, hm, hle, fun _ => ⟨g, rfl, hlt g rfl⟩⟩
/-- the cell of one row -/
theorem Own2U.cell {w : World} {bo bi g n c : Nat} {us : List Value} {rows : List (List Int)} (h : Own2U w bo bi (.slice (some ⟨g, 0, none⟩) n c) us rows) (hn : rows.length = n) {k : Nat} (hk : k < rows.length) :
    w.cell? ⟨g, k, none⟩ = some (us.getD k (.slice none 0 0)) ∧ w.frozen? ⟨g, k, none⟩ = false := by
  subst hn
  obtain ⟨hl, ho, hr, hd⟩ := h
  have h1 := World.ownsRow.cells ho (g := g) rfl k (us.getD k (.slice none 0 0)) (by simp [show k < us.length by omega])
  rw [Addr.add_lit, Nat.zero_add] at h1
  exact ⟨h1, World.ownsRow.frozenAt ho k⟩
/-- an append to one row goes back into its place -/
theorem Own2U.put {w w1 : World} {bo bi g n c : Nat} {us : List Value} {rows : List (List Int)} (h : Own2U w bo bi (.slice (some ⟨g, 0, none⟩) n c) us rows) (hn : rows.length = n) {i : Nat} (hi : i < rows.length) {u' : Value} {ys : List Int}
    (ho' : Own w1 bi u' ys) (hg : w.grownBy w1 (us.getD i (.slice none 0 0)).ownBlock) (hat : u'.ownBlock = (us.getD i (.slice none 0 0)).ownBlock ∨ ∃ k, u'.ownBlock = some k ∧ w.heap.size ≤ k) :
    Own2U (w1.setCell ⟨g, i, none⟩ u') bo bi (.slice (some ⟨g, 0, none⟩) n c) (us.set i u') (rows.set i ys) ∧ w1.grownBy (w1.setCell ⟨g, i, none⟩ u') (some g) := by
  subst hn
  obtain ⟨hl, ho, hr, hd⟩ := h
  have ho1 : w1.ownsRow bo 22 1 (.slice (some ⟨g, 0, none⟩) rows.length c) rows.length us := World.ownsRow.kept ho hg (apart_symm' (types_part (hr i hi) ho (by decide)))
  have hst := World.ownsRow.stored ho1 i u'
  have hap : u'.ownBlock = none ∨ u'.ownBlock ≠ some g := by
    have := types_part ho' ho1 (by decide)
    simpa [Value.ownBlock] using this
  refine ⟨⟨by simp [hl], ?_, fun k hk => ?_, fun a b hab hb => ?_⟩, hst.2⟩
  · rw [List.length_set]
    exact hst.1
  · rw [List.length_set] at hk
    by_cases hik : i = k
    · subst hik
      rw [show (rows.set i ys).getD i [] = ys by simp [List.getD_eq_getElem?_getD, hk], show (us.set i u').getD i (.slice none 0 0) = u' by simp [List.getD_eq_getElem?_getD, show i < us.length by omega]]
      exact ho'.kept hst.2 hap
    · rw [show (rows.set i ys).getD k [] = rows.getD k [] by simp [List.getD_eq_getElem?_getD, List.getElem?_set_ne hik], show (us.set i u').getD k (.slice none 0 0) = us.getD k (.slice none 0 0) by simp [List.getD_eq_getElem?_getD, List.getElem?_set_ne hik]]
      have h1 : Own w1 bi (us.getD k (.slice none 0 0)) (rows.getD k []) := by
        refine (hr k hk).kept hg ?_
        rcases Nat.lt_or_gt_of_ne hik with q | q
        · exact apart_symm' (hd i k q hk)
        · exact hd k i q hi
      refine h1.kept hst.2 ?_
      have := types_part h1 ho1 (by decide)
      simpa [Value.ownBlock] using this
  · rw [List.length_set] at hb
    have key : ∀ k, k ≠ i → k < rows.length → (us.getD k (.slice none 0 0)).ownBlock = none ∨ (us.getD k (.slice none 0 0)).ownBlock ≠ u'.ownBlock := by
      intro k hki hk
      rcases hat with e | ⟨z, e, hz⟩
      · rw [e]
        rcases Nat.lt_or_gt_of_ne hki with q | q
        · exact hd k i q hi
        · exact apart_symm' (hd i k q hk)
      · rw [e]
        rcases q : (us.getD k (.slice none 0 0)).ownBlock with _ | x
        · exact .inl rfl
        · right
          intro e2
          have h3 := ((hr k hk).lt x q).2
          injection e2 with e2
          omega
    have ei : (us.set i u').getD i (.slice none 0 0) = u' := by simp [List.getD_eq_getElem?_getD, show i < us.length by omega]
    have en : ∀ k, k ≠ i → (us.set i u').getD k (.slice none 0 0) = us.getD k (.slice none 0 0) := fun k hk => by simp [List.getD_eq_getElem?_getD, List.getElem?_set_ne (Ne.symm hk)]
    by_cases h1 : a = i
    · subst h1
      rw [ei, en b (by omega)]
      exact apart_symm' (key b (by omega) hb)
    · by_cases h2 : b = i
      · subst h2
        rw [ei, en a h1]
        exact key a h1 (by omega)
      · rw [en a h1, en b h2]
        exact hd a b hab hb
theorem wp_append2V {ops : Array Oper} {rest : List Oper} {o : Oper} {a : Act} {Q : Exit → Act → World → Prop} (w : World) (hgd : o.guard = none) (s x : Operand)
    (ho : o.op = .call { callee := .builtin .append, args := #[s, x], argTypes := #[27, 27] })
    (bo bi : Nat) (v : Value) (rows : List (List Int)) (u : Value) (xs : List Int) (w0 : World) (hs : a.eval s = v) (hown0 : Own2 w0 bo bi v rows) (hb0 : Below w0.heap.size w0 w) (hu0 : Own w w0.heap.size u xs) (hbo0 : bo ≤ w0.heap.size) (hbi0 : bi ≤ w0.heap.size) (hx : a.eval x = .slice (some ⟨w.heap.size, 0, none⟩) 1 1)
    (hlen : rows.length ≤ 1048576)
    (h : ∀ v' w', Own2 w' bo bi v' (rows ++ [xs]) → w.grownBy w' v.ownBlock → wpList Try.prog ops Q rest (a.put o.dst v') w') :
    wpList Try.prog ops Q (o :: rest) a (w.alloc (.cells #[u] 22)) := by
  obtain ⟨i0, hi, hz0, hz1, hz2⟩ := info_parts rows_info
  have hu := hu0.mono hbi0
  have hbase : bo ≤ w.heap.size := Nat.le_trans hbo0 hb0.size
  obtain ⟨us0, hown0⟩ := hown0
  have hlt0 : ∀ k, k < rows.length → ∀ g, (us0.getD k (.slice none 0 0)).ownBlock = some g → g < w0.heap.size := fun k hk g hg => ((hown0.2.2.1 k hk).lt g hg).2
  obtain ⟨hl, hor, hr, hd⟩ : Own2U w bo bi v us0 rows := ⟨hown0.1, ownsRow_below hown0.2.1 hb0, fun k hk => (hown0.2.2.1 k hk).below hb0, hown0.2.2.2⟩
  have hor' : (w.alloc (.cells #[u] 22)).ownsRow bo 22 1 v rows.length us0 := World.ownsRow.alloc hor _
  refine wpList_append_own _ hgd s x 27 ho bo 22 i0 (.slice none 0 0) 1 24 Try.underlying27 hi hz0 hz1 hz2 rfl (by decide) v rows.length us0 hs hor' ⟨w.heap.size, 0, none⟩ 1 1 [u] hx rfl ?_ ?_ ?_ ?_ ?_ ?_
  · intro j y hj
    match j, hj with
    | 0, hj => simp at hj; subst hj; simp [Addr.add]
  · intro y hy
    simp at hy
    subst hy
    obtain ⟨B, d, e, _⟩ := hu.form
    rw [e]; rfl
  · unfold maxLen; omega
  · omega
  · simp; omega
  · intro v' w' h1 h2 _
    have h2' := grown_of_alloc h2
    have e1 : ∀ k, k < rows.length → (us0 ++ [u]).getD k (.slice none 0 0) = us0.getD k (.slice none 0 0) := fun k hk => by simp [List.getD_eq_getElem?_getD, List.getElem?_append_left (show k < us0.length by omega)]
    have e2 : (us0 ++ [u]).getD rows.length (.slice none 0 0) = u := by simp [List.getD_eq_getElem?_getD, ← hl]
    refine h v' w' ⟨us0 ++ [u], by simp [hl], by rw [List.length_append]; exact h1, fun k hk => ?_, fun i j hij hj => ?_⟩ h2'
    · rw [List.length_append, List.length_singleton] at hk
      by_cases hk2 : k < rows.length
      · have e3 : (rows ++ [xs]).getD k [] = rows.getD k [] := by simp [List.getD_eq_getElem?_getD, List.getElem?_append_left hk2]
        rw [e1 k hk2, e3]
        exact (hr k hk2).kept h2' (types_part (hr k hk2) hor (by decide))
      · obtain rfl : k = rows.length := by omega
        have e3 : (rows ++ [xs]).getD rows.length [] = xs := by simp [List.getD_eq_getElem?_getD]
        rw [e2, e3]
        exact hu.kept h2' (types_part hu hor (by decide))
    · rw [List.length_append, List.length_singleton] at hj
      rw [e1 i (by omega)]
      by_cases hj2 : j < rows.length
      · rw [e1 j hj2]; exact hd i j hij hj2
      · obtain rfl : j = rows.length := by omega
        rw [e2]
        rcases q : (us0.getD i (.slice none 0 0)).ownBlock with _ | g
        · exact .inl rfl
        · right
          intro e
          have := hlt0 i hij g q
          have := (hu0.lt g e.symm).1
          omega
end Go.Proofs.Ytdmneccfbfdloaa
