/- Texts put together: RedQ, Rows2, Strat, Bal, Bal2, TourL. -/
import Derived.Test.YthoodjjjklbggaaDoorMRotational11
import Derived.Test.YthoodjjjklbggaaDoorMRotational04
import Derived.Maps.AppendAt
import Derived.Test.YthoodjjjklbggaaDoorMRotational03
import Derived.Test.YthoodjjjklbggaaDoorMRotational09
import Derived.Test.YthoodjjjklbggaaDoorMRotational02
import Derived.Test.YthoodjjjklbggaaDoorMRotational01
namespace Go.Proofs.YthoodjjjklbggaaDoor
set_option maxRecDepth 100000
theorem gcdA_dvd : ∀ {l : List Int} {x : Int}, x ∈ l → gcdA l ∣ x.natAbs := by
  have : ∀ (l : List Int) (g : Nat), l.foldl (fun g x => Nat.gcd g x.natAbs) g ∣ g ∧ ∀ x ∈ l, l.foldl (fun g x => Nat.gcd g x.natAbs) g ∣ x.natAbs := by
    intro l
    induction l with
    | nil => intro g; exact ⟨Nat.dvd_refl _, fun x h => by cases h⟩
    | cons y l ih =>
      intro g
      obtain ⟨h1, h2⟩ := ih (Nat.gcd g y.natAbs)
      refine ⟨Nat.dvd_trans h1 (Nat.gcd_dvd_left _ _), fun x hx => ?_⟩
      rw [List.mem_cons] at hx
      rcases hx with rfl | hx
      · exact Nat.dvd_trans h1 (Nat.gcd_dvd_right _ _)
      · exact h2 x hx
  intro l x hx
  exact (this l 0).2 x hx
theorem gcdA_great {d : Nat} : ∀ {l : List Int}, (∀ x ∈ l, d ∣ x.natAbs) → d ∣ gcdA l := by
  have : ∀ (l : List Int) (g : Nat), d ∣ g → (∀ x ∈ l, d ∣ x.natAbs) → d ∣ l.foldl (fun g x => Nat.gcd g x.natAbs) g := by
    intro l
    induction l with
    | nil => intro g h _; exact h
    | cons y l ih => intro g h hx; exact ih _ (Nat.dvd_gcd h (hx y (by simp))) fun x hx' => hx x (by simp [hx'])
  intro l h
  exact this l 0 (Nat.dvd_zero _) h
theorem redL_len (xs ys : List Int) (c : Nat) : (redL xs ys c).length = xs.length := by
  unfold redL
  split <;> simp [redO_len]
theorem redL_P {xs ys : List Int} {n c : Nat} (hn : xs.length = n) : RedP n (fun i => xs.getD i 0) (fun i => ys.getD i 0) c (fun i => (redL xs ys c).getD i 0) := by
  obtain ⟨o, ho⟩ : ∃ o, o = redO xs ys c n := ⟨_, rfl⟩
  have hol : o.length = n := by rw [ho]; exact redO_len _ _ _ _
  have hoi : ∀ i, i < n → o.getD i 0 = xs.getD i 0 * ys.getD c 0 - ys.getD i 0 * xs.getD c 0 := fun i hi => by rw [ho]; simp [redO, hi, redX]
  have hmem : ∀ i, i < n → o.getD i 0 ∈ o := fun i hi => by
    have e : o.getD i 0 = o[i]'(by omega) := by simp [show i < o.length by omega]
    rw [e]; exact List.getElem_mem _
  have hall : ∀ x ∈ o, ∃ i, i < n ∧ x = o.getD i 0 := fun x hx => by
    obtain ⟨i, hi, rfl⟩ := List.getElem_of_mem hx
    exact ⟨i, by omega, by simp [hi]⟩
  have hdv : ∀ i, i < n → ((gcdA o : Nat) : Int) ∣ o.getD i 0 := fun i hi => Int.ofNat_dvd_left.2 (gcdA_dvd (hmem i hi))
  have hR : redL xs ys c = if 1 < gcdA o then o.map fun x => x.tdiv (gcdA o) else o := by unfold redL; rw [hn, ← ho]
  by_cases h1 : 1 < gcdA o
  · have hRi : ∀ i, i < n → (gcdA o : Int) * (redL xs ys c).getD i 0 = o.getD i 0 := fun i hi => by
      have e : (redL xs ys c).getD i 0 = (o.getD i 0).tdiv (gcdA o) := by rw [hR, if_pos h1]; simp [show i < o.length by omega]
      rw [e]
      exact Int.mul_tdiv_cancel' (hdv i hi)
    refine ⟨⟨gcdA o, by omega, fun i hi => by rw [← hoi i hi]; exact hRi i hi⟩, fun d hd => .inl ?_⟩
    have hgd : gcdA o * d ∣ gcdA o := gcdA_great fun x hx => by
      obtain ⟨i, hi, rfl⟩ := hall x hx
      obtain ⟨q, hq⟩ := hd i hi
      dsimp only at hq
      have : ((gcdA o * d : Nat) : Int) ∣ o.getD i 0 := ⟨q, by rw [← hRi i hi, hq, Int.natCast_mul, Int.mul_assoc]⟩
      exact Int.ofNat_dvd_left.1 this
    have := Nat.le_of_dvd (by omega) hgd
    have h0 : d ≠ 0 := fun e => by subst e; rw [Nat.mul_zero] at hgd; have := Nat.eq_zero_of_zero_dvd hgd; omega
    refine Classical.byContradiction fun hne => ?_
    have : gcdA o * 2 ≤ gcdA o * d := Nat.mul_le_mul_left _ (by omega)
    omega
  · have hRi : ∀ i, i < n → (redL xs ys c).getD i 0 = o.getD i 0 := fun i _ => by rw [hR, if_neg h1]
    refine ⟨⟨1, by omega, fun i hi => by dsimp only; rw [hRi i hi, hoi i hi]; omega⟩, fun d hd => ?_⟩
    by_cases h0 : gcdA o = 0
    · right
      intro i hi
      have := hdv i hi
      rw [h0] at this
      dsimp only
      rw [hRi i hi]
      exact Int.zero_dvd.1 this
    · left
      have hgd : d ∣ gcdA o := gcdA_great fun x hx => by
        obtain ⟨i, hi, rfl⟩ := hall x hx
        have := hd i hi
        dsimp only at this
        rw [hRi i hi] at this
        exact Int.ofNat_dvd_left.1 this
      have := Nat.le_of_dvd (by omega) hgd
      have hd0 : d ≠ 0 := fun e => by subst e; have := Nat.eq_zero_of_zero_dvd hgd; omega
      omega
end Go.Proofs.YthoodjjjklbggaaDoor

namespace Go.Proofs.YthoodjjjklbggaaDoor
open Go.RowKit Go.Sort
set_option maxRecDepth 100000
theorem wp_append1at2 {ops : Array Oper} {rest : List Oper} {o : Oper} {a : Act} {Q : Exit → Act → World → Prop} (w : World) (hgd : o.guard = none) (s x : Operand)
    (ho : o.op = .call { callee := .builtin .append, args := #[s, x], argTypes := #[23, 23] })
    (base : Nat) (v : Value) (xs : List Int) (y : Int) (hs : a.eval s = v) (hown : Own w base v xs) (hx : a.eval x = .slice (some ⟨w.heap.size, 0, none⟩) 1 1)
    (hlen : xs.length ≤ 1099511627776) (hbase : base ≤ w.heap.size)
    (h : ∀ v' w', Own w' base v' (xs ++ [y]) → w.grownBy w' v.ownBlock → (v'.ownBlock = v.ownBlock ∨ ∃ k, v'.ownBlock = some k ∧ w.heap.size ≤ k) → wpList Tryd.prog ops Q rest (a.put o.dst v') w') :
    wpList Tryd.prog ops Q (o :: rest) a (w.alloc (.cells #[.int .i64 y] 3)) := by
  obtain ⟨i0, hi, hz0, hz1, hz2⟩ := info_parts i64_info
  have hown' : (w.alloc (.cells #[.int .i64 y] 3)).ownsRow base 3 1 v xs.length (xs.map (Value.int .i64)) := World.ownsRow.alloc hown _
  refine wpList_append_own_at _ hgd s x 23 ho base 3 i0 (.int .i64 0) 1 8 Tryd.underlying23 hi hz0 hz1 hz2 rfl (by decide) v xs.length (xs.map (Value.int .i64)) hs hown' ⟨w.heap.size, 0, none⟩ 1 1 [.int .i64 y] hx rfl ?_ ?_ ?_ ?_ ?_ ?_
  · intro j u hj
    match j, hj with
    | 0, hj => simp at hj; subst hj; simp [Addr.add]
  · intro u hu; simp at hu; subst hu; rfl
  · unfold maxLen; omega
  · omega
  · simp; omega
  · intro v' w' h1 h2 _ h4
    refine h v' w' ?_ (grown_of_alloc h2) (h4.imp id fun e => ⟨_, e, by simp⟩)
    unfold Own
    rw [List.length_append, List.map_append]
    exact h1
def Own2U (w : World) (bo bi : Nat) (v : Value) (us : List Value) (rows : List (List Int)) : Prop :=
  us.length = rows.length ∧ w.ownsRow bo 23 1 v rows.length us ∧ (∀ k, k < rows.length → Own w bi (us.getD k (.slice none 0 0)) (rows.getD k [])) ∧
    ∀ i j, i < j → j < rows.length → (us.getD i (.slice none 0 0)).ownBlock = none ∨ (us.getD i (.slice none 0 0)).ownBlock ≠ (us.getD j (.slice none 0 0)).ownBlock
def Own2 (w : World) (bo bi : Nat) (v : Value) (rows : List (List Int)) : Prop := ∃ us : List Value, Own2U w bo bi v us rows
theorem Own2.nil_ (w : World) (bo bi : Nat) : Own2 w bo bi (.slice none 0 0) [] := ⟨[], rfl, World.ownsRow_nil _ _ _ _, fun k h => absurd h (by simp), fun i j _ h => absurd h (by simp)⟩
theorem Own2.lit0 (w : World) (bo bi : Nat) (hb : bo ≤ w.heap.size) : Own2 (w.alloc (.cells #[] 23)) bo bi (.slice (some ⟨w.heap.size, 0, none⟩) 0 0) [] := by
  have := World.ownsRow_lit (e := 23) (size := 1) w #[] 0 hb (by unfold maxLen; omega) (by simp)
  exact ⟨[], rfl, by simpa using this, fun k h => absurd h (by simp), fun i j _ h => absurd h (by simp)⟩
theorem Own2.below {w w' : World} {bo bi : Nat} {v : Value} {rows : List (List Int)} (h : Own2 w bo bi v rows) (hb : Below w.heap.size w w') : Own2 w' bo bi v rows := by
  obtain ⟨us, hl, ho, hr, hd⟩ := h
  exact ⟨us, hl, ownsRow_below ho hb, fun k hk => (hr k hk).below hb, hd⟩
theorem Own2.rows {w : World} {bo bi b : Nat} {v : Value} {rows : List (List Int)} (h : Own2 w bo bi v rows) (h1 : b ≤ bo) (h2 : b ≤ bi) : OwnRows w b v rows := by
  obtain ⟨us, hl, ho, hr, hd⟩ := h
  exact ⟨us, hl, ownsRow_mono ho h1, fun k hk => (hr k hk).mono h2, hd⟩
theorem Own2.form {w : World} {bo bi : Nat} {v : Value} {rows : List (List Int)} (h : Own2 w bo bi v rows) : ∃ A c, v = .slice A rows.length c ∧ c ≤ maxLen ∧ rows.length ≤ c ∧
    (0 < rows.length → ∃ g, A = some ⟨g, 0, none⟩ ∧ bo ≤ g ∧ g < w.heap.size) := by
  obtain ⟨us, hl, ho, hr, -⟩ := h
  have hlt := World.ownsRow.lt ho
  rcases ho.2 with ⟨rfl, e⟩ | ⟨g, cap, cur, rfl, hb, hg, hle, hm, _⟩
  · exact ⟨none, 0, by rw [e], by unfold maxLen; omega, by omega, fun h => absurd h (by omega)⟩
  · exact ⟨_, cap, rfl, hm, hle, fun _ => ⟨g, rfl, hlt g rfl⟩⟩
/-- the cell of one row -/
theorem Own2U.cell {w : World} {bo bi g n c : Nat} {us : List Value} {rows : List (List Int)} (h : Own2U w bo bi (.slice (some ⟨g, 0, none⟩) n c) us rows) (hn : rows.length = n) {k : Nat} (hk : k < rows.length) :
    w.cell? ⟨g, k, none⟩ = some (us.getD k (.slice none 0 0)) ∧ w.frozen? ⟨g, k, none⟩ = false := by
  subst hn
  obtain ⟨hl, ho, hr, hd⟩ := h
  have h1 := World.ownsRow.cells ho (g := g) rfl k (us.getD k (.slice none 0 0)) (by simp [show k < us.length by omega])
  rw [Addr.add_lit, Nat.zero_add] at h1
  exact ⟨h1, World.ownsRow.frozenAt ho k⟩
/-- an append to one row goes back into its place -/
theorem Own2U.put {w w1 : World} {bo bi g n c : Nat} {us : List Value} {rows : List (List Int)} (h : Own2U w bo bi (.slice (some ⟨g, 0, none⟩) n c) us rows) (hn : rows.length = n) {i : Nat} (hi : i < rows.length) {u' : Value} {ys : List Int}
    (ho' : Own w1 bi u' ys) (hg : w.grownBy w1 (us.getD i (.slice none 0 0)).ownBlock) (hat : u'.ownBlock = (us.getD i (.slice none 0 0)).ownBlock ∨ ∃ k, u'.ownBlock = some k ∧ w.heap.size ≤ k) :
    Own2U (w1.setCell ⟨g, i, none⟩ u') bo bi (.slice (some ⟨g, 0, none⟩) n c) (us.set i u') (rows.set i ys) ∧ w1.grownBy (w1.setCell ⟨g, i, none⟩ u') (some g) := by
  subst hn
  obtain ⟨hl, ho, hr, hd⟩ := h
  have ho1 : w1.ownsRow bo 23 1 (.slice (some ⟨g, 0, none⟩) rows.length c) rows.length us := World.ownsRow.kept ho hg (apart_symm' (types_part (hr i hi) ho (by decide)))
  have hst := World.ownsRow.stored ho1 i u'
  have hap : u'.ownBlock = none ∨ u'.ownBlock ≠ some g := by
    have := types_part ho' ho1 (by decide)
    simpa [Value.ownBlock] using this
  refine ⟨⟨by simp [hl], ?_, fun k hk => ?_, fun a b hab hb => ?_⟩, hst.2⟩
  · rw [List.length_set]
    exact hst.1
  · rw [List.length_set] at hk
    by_cases hik : i = k
    · subst hik
      rw [show (rows.set i ys).getD i [] = ys by simp [List.getD_eq_getElem?_getD, hk], show (us.set i u').getD i (.slice none 0 0) = u' by simp [List.getD_eq_getElem?_getD, show i < us.length by omega]]
      exact ho'.kept hst.2 hap
    · rw [show (rows.set i ys).getD k [] = rows.getD k [] by simp [List.getD_eq_getElem?_getD, List.getElem?_set_ne hik], show (us.set i u').getD k (.slice none 0 0) = us.getD k (.slice none 0 0) by simp [List.getD_eq_getElem?_getD, List.getElem?_set_ne hik]]
      have h1 : Own w1 bi (us.getD k (.slice none 0 0)) (rows.getD k []) := by
        refine (hr k hk).kept hg ?_
        rcases Nat.lt_or_gt_of_ne hik with q | q
        · exact apart_symm' (hd i k q hk)
        · exact hd k i q hi
      refine h1.kept hst.2 ?_
      have := types_part h1 ho1 (by decide)
      simpa [Value.ownBlock] using this
  · rw [List.length_set] at hb
    have key : ∀ k, k ≠ i → k < rows.length → (us.getD k (.slice none 0 0)).ownBlock = none ∨ (us.getD k (.slice none 0 0)).ownBlock ≠ u'.ownBlock := by
      intro k hki hk
      rcases hat with e | ⟨z, e, hz⟩
      · rw [e]
        rcases Nat.lt_or_gt_of_ne hki with q | q
        · exact hd k i q hi
        · exact apart_symm' (hd i k q hk)
      · rw [e]
        rcases q : (us.getD k (.slice none 0 0)).ownBlock with _ | x
        · exact .inl rfl
        · right
          intro e2
          have h3 := ((hr k hk).lt x q).2
          injection e2 with e2
          omega
    have ei : (us.set i u').getD i (.slice none 0 0) = u' := by simp [List.getD_eq_getElem?_getD, show i < us.length by omega]
    have en : ∀ k, k ≠ i → (us.set i u').getD k (.slice none 0 0) = us.getD k (.slice none 0 0) := fun k hk => by simp [List.getD_eq_getElem?_getD, List.getElem?_set_ne (Ne.symm hk)]
    by_cases h1 : a = i
    · subst h1
      rw [ei, en b (by omega)]
      exact apart_symm' (key b (by omega) hb)
    · by_cases h2 : b = i
      · subst h2
        rw [ei, en a h1]
        exact key a h1 (by omega)
      · rw [en a h1, en b h2]
        exact hd a b hab hb
theorem wp_append2V {ops : Array Oper} {rest : List Oper} {o : Oper} {a : Act} {Q : Exit → Act → World → Prop} (w : World) (hgd : o.guard = none) (s x : Operand)
    (ho : o.op = .call { callee := .builtin .append, args := #[s, x], argTypes := #[95, 95] })
    (bo bi : Nat) (v : Value) (rows : List (List Int)) (u : Value) (xs : List Int) (w0 : World) (hs : a.eval s = v) (hown0 : Own2 w0 bo bi v rows) (hb0 : Below w0.heap.size w0 w) (hu0 : Own w w0.heap.size u xs) (hbo0 : bo ≤ w0.heap.size) (hbi0 : bi ≤ w0.heap.size) (hx : a.eval x = .slice (some ⟨w.heap.size, 0, none⟩) 1 1)
    (hlen : rows.length ≤ 1048576)
    (h : ∀ v' w', Own2 w' bo bi v' (rows ++ [xs]) → w.grownBy w' v.ownBlock → wpList Tryd.prog ops Q rest (a.put o.dst v') w') :
    wpList Tryd.prog ops Q (o :: rest) a (w.alloc (.cells #[u] 23)) := by
  obtain ⟨i0, hi, hz0, hz1, hz2⟩ := info_parts rows_info
  have hu := hu0.mono hbi0
  have hbase : bo ≤ w.heap.size := Nat.le_trans hbo0 hb0.size
  obtain ⟨us0, hown0⟩ := hown0
  have hlt0 : ∀ k, k < rows.length → ∀ g, (us0.getD k (.slice none 0 0)).ownBlock = some g → g < w0.heap.size := fun k hk g hg => ((hown0.2.2.1 k hk).lt g hg).2
  obtain ⟨hl, hor, hr, hd⟩ : Own2U w bo bi v us0 rows := ⟨hown0.1, ownsRow_below hown0.2.1 hb0, fun k hk => (hown0.2.2.1 k hk).below hb0, hown0.2.2.2⟩
  have hor' : (w.alloc (.cells #[u] 23)).ownsRow bo 23 1 v rows.length us0 := World.ownsRow.alloc hor _
  refine wpList_append_own _ hgd s x 95 ho bo 23 i0 (.slice none 0 0) 1 24 Tryd.underlying95 hi hz0 hz1 hz2 rfl (by decide) v rows.length us0 hs hor' ⟨w.heap.size, 0, none⟩ 1 1 [u] hx rfl ?_ ?_ ?_ ?_ ?_ ?_
  · intro j y hj
    match j, hj with
    | 0, hj => simp at hj; subst hj; simp [Addr.add]
  · intro y hy
    simp at hy
    subst hy
    obtain ⟨B, d, e, _⟩ := hu.form
    rw [e]; rfl
  · unfold maxLen; omega
  · omega
  · simp; omega
  · intro v' w' h1 h2 _
    have h2' := grown_of_alloc h2
    have e1 : ∀ k, k < rows.length → (us0 ++ [u]).getD k (.slice none 0 0) = us0.getD k (.slice none 0 0) := fun k hk => by simp [List.getD_eq_getElem?_getD, List.getElem?_append_left (show k < us0.length by omega)]
    have e2 : (us0 ++ [u]).getD rows.length (.slice none 0 0) = u := by simp [List.getD_eq_getElem?_getD, ← hl]
    refine h v' w' ⟨us0 ++ [u], by simp [hl], by rw [List.length_append]; exact h1, fun k hk => ?_, fun i j hij hj => ?_⟩ h2'
    · rw [List.length_append, List.length_singleton] at hk
      by_cases hk2 : k < rows.length
      · have e3 : (rows ++ [xs]).getD k [] = rows.getD k [] := by simp [List.getD_eq_getElem?_getD, List.getElem?_append_left hk2]
        rw [e1 k hk2, e3]
        exact (hr k hk2).kept h2' (types_part (hr k hk2) hor (by decide))
      · obtain rfl : k = rows.length := by omega
        have e3 : (rows ++ [xs]).getD rows.length [] = xs := by simp [List.getD_eq_getElem?_getD]
        rw [e2, e3]
        exact hu.kept h2' (types_part hu hor (by decide))
    · rw [List.length_append, List.length_singleton] at hj
      rw [e1 i (by omega)]
      by_cases hj2 : j < rows.length
      · rw [e1 j hj2]; exact hd i j hij hj2
      · obtain rfl : j = rows.length := by omega
        rw [e2]
        rcases q : (us0.getD i (.slice none 0 0)).ownBlock with _ | g
        · exact .inl rfl
        · right
          intro e
          have := hlt0 i hij g q
          have := (hu0.lt g e.symm).1
          omega
end Go.Proofs.YthoodjjjklbggaaDoor

namespace Go.Proofs.YthoodjjjklbggaaDoor
open Go.RowKit Go.Sort

noncomputable def stratB (s : Int) (xs ws : List Int) : Bool := tourB s xs && (((ws.length : Int) == s) && (allB ws 0 100000 && decide (0 < ws.sum)))
theorem allB_of {xs : List Int} {lo hi : Int} (h : allB xs lo hi = true) : ∀ x ∈ xs, lo ≤ x ∧ x ≤ hi := by
  unfold allB at h; rw [List.all_eq_true] at h; exact fun x hx => inB_true.1 (h x hx)
theorem allB_true {xs : List Int} {lo hi : Int} (h : ∀ x ∈ xs, lo ≤ x ∧ x ≤ hi) : allB xs lo hi = true := by
  unfold allB; rw [List.all_eq_true]; exact fun x hx => inB_true.2 (h x hx)
theorem stratB_true {s : Int} {xs ws : List Int} : stratB s xs ws = true ↔ tourP s xs ∧ (ws.length : Int) = s ∧ (∀ x ∈ ws, 0 ≤ x ∧ x ≤ 100000) ∧ 0 < ws.sum := by
  simp only [stratB, Bool.and_eq_true, tourB_true, beq_iff_eq, decide_eq_true_eq]
  exact ⟨fun h => ⟨h.1, h.2.1, allB_of h.2.2.1, h.2.2.2⟩, fun h => ⟨h.1, h.2.1, allB_true h.2.2.1, h.2.2.2⟩⟩
theorem sum_pos {xs : List Int} (h0 : ∀ x ∈ xs, 0 ≤ x) : 0 ≤ xs.sum ∧ (0 < xs.sum ↔ ∃ x ∈ xs, x ≠ 0) := by
  induction xs with
  | nil => simp
  | cons a xs ih =>
    have ih := ih fun x hx => h0 x (by simp [hx])
    have ha := h0 a (by simp)
    rw [List.sum_cons]
    refine ⟨by omega, ?_⟩
    constructor
    · intro h
      by_cases hz : a = 0
      · obtain ⟨x, hx, hne⟩ := ih.2.1 (by omega)
        exact ⟨x, by simp [hx], hne⟩
      · exact ⟨a, by simp, hz⟩
    · rintro ⟨x, hx, hne⟩
      rw [List.mem_cons] at hx
      rcases hx with rfl | hx
      · omega
      · have := ih.2.2 ⟨x, hx, hne⟩; omega
theorem max_sum {xs : List Int} (h0 : ∀ x ∈ xs, 0 ≤ x) (hne : 0 < xs.length) : decide (0 < maxI xs) = decide (0 < xs.sum) := by
  have h1 := maxI_pos h0 hne
  have h2 := (sum_pos h0).2
  rw [decide_eq_decide, h1, h2]
theorem take_snocI {xs : List Int} {k : Nat} (hk : k < xs.length) : xs.take (k + 1) = xs.take k ++ [xs[k]?.getD 0] := by
  rw [List.take_succ_eq_append_getElem hk]
  simp [hk]
theorem sum_take_bd {xs : List Int} (B : Nat) (h : ∀ x ∈ xs, 0 ≤ x ∧ x ≤ B) (k : Nat) (hk : k ≤ xs.length) : 0 ≤ (xs.take k).sum ∧ (xs.take k).sum ≤ B * k := by
  induction k with
  | zero => simp
  | succ k ih =>
    have ih := ih (by omega)
    rw [take_snocI (by omega), List.sum_append, List.sum_singleton]
    have hx := h (xs[k]?.getD 0) (by rw [List.getElem?_eq_getElem (by omega)]; exact List.getElem_mem _)
    have : (B : Int) * ((k + 1 : Nat) : Int) = B * k + B := by rw [Int.natCast_add, Int.mul_add]; simp
    omega

set_option maxHeartbeats 1000000 in
theorem implStrat (s : Int) (sl : Value) (xs : List Int) (wv : Value) (ws : List Int) (w : World) (h : Rd w sl xs) (h2 : Rd w wv ws) :
    Calls Tryd.prog 63 #[.agg #[.int .i64 s, sl], wv] w fun e w' => e = .returned (.bool (stratB s xs ws)) ∧ Below w.heap.size w w' := by
  have HR := Lib.hid h
  have HW := Lib.hid h2
  obtain ⟨A, c, rfl, -, -, -⟩ := h
  obtain ⟨B, d, rfl, -, hm, -⟩ := h2
  unfold maxLen at hm
  rcases q0 : tourB s xs with _ | _
  case false =>
    go_enter Tryd.func63, Tryd.ntmps63
    go_wp2_with fail
    have b0 := below_alloc1 w (.cells #[.int .i64 s, .slice A xs.length c] 25)
    have x0 := TBox.new w s (.slice A xs.length c) 25
    generalize w.alloc (.cells #[.int .i64 s, .slice A xs.length c] 25) = w0 at *
    have HX0 := Lib.hid x0
    have HB0 := Lib.hid b0
    clear x0 b0
    have y0_0 := HX0.out.1
    have y1_0 := HX0.out.2
    go_wp2_with fail
    refine (implTourOk s _ xs _ (HR.out.below HB0.out)).mono ?_
    rintro e w1 ⟨rfl, hb⟩
    have HX1 := Lib.hid (HX0.out.below hb)
    have HB1 := Lib.hid (Below.then HB0.out hb)
    clear hb HX0 HB0 y0_0 y1_0
    have y0_1 := HX1.out.1
    have y1_1 := HX1.out.2
    rw [q0]
    go_wp2
    go_ret
    exact ⟨ret_bool (by simp [stratB, *]), HB1.out⟩
  have hs := (tourB_true.1 q0).1
  rcases q1 : ((ws.length : Int) == s) with _ | _
  case false =>
    go_enter Tryd.func63, Tryd.ntmps63
    go_wp2_with fail
    have b0 := below_alloc1 w (.cells #[.int .i64 s, .slice A xs.length c] 25)
    have x0 := TBox.new w s (.slice A xs.length c) 25
    generalize w.alloc (.cells #[.int .i64 s, .slice A xs.length c] 25) = w0 at *
    have HX0 := Lib.hid x0
    have HB0 := Lib.hid b0
    clear x0 b0
    have y0_0 := HX0.out.1
    have y1_0 := HX0.out.2
    go_wp2_with fail
    refine (implTourOk s _ xs _ (HR.out.below HB0.out)).mono ?_
    rintro e w1 ⟨rfl, hb⟩
    have HX1 := Lib.hid (HX0.out.below hb)
    have HB1 := Lib.hid (Below.then HB0.out hb)
    clear hb HX0 HB0 y0_0 y1_0
    have y0_1 := HX1.out.1
    have y1_1 := HX1.out.2
    rw [q0]
    go_wp2
    go_ret
    exact ⟨ret_bool (by simp [stratB, *]), HB1.out⟩
  rcases q2 : allB ws 0 100000 with _ | _
  case false =>
    go_enter Tryd.func63, Tryd.ntmps63
    go_wp2_with fail
    have b0 := below_alloc1 w (.cells #[.int .i64 s, .slice A xs.length c] 25)
    have x0 := TBox.new w s (.slice A xs.length c) 25
    generalize w.alloc (.cells #[.int .i64 s, .slice A xs.length c] 25) = w0 at *
    have HX0 := Lib.hid x0
    have HB0 := Lib.hid b0
    clear x0 b0
    have y0_0 := HX0.out.1
    have y1_0 := HX0.out.2
    go_wp2_with fail
    refine (implTourOk s _ xs _ (HR.out.below HB0.out)).mono ?_
    rintro e w1 ⟨rfl, hb⟩
    have HX1 := Lib.hid (HX0.out.below hb)
    have HB1 := Lib.hid (Below.then HB0.out hb)
    clear hb HX0 HB0 y0_0 y1_0
    have y0_1 := HX1.out.1
    have y1_1 := HX1.out.2
    rw [q0]
    go_wp2_with fail
    refine (allWithin_any _ ws 0 100000 _ (HW.out.below HB1.out)).mono ?_
    rintro e w2 ⟨rfl, hb⟩
    have HX2 := Lib.hid (HX1.out.below hb)
    have HB2 := Lib.hid (Below.then HB1.out hb)
    clear hb HX1 HB1 y0_1 y1_1
    have y0_2 := HX2.out.1
    have y1_2 := HX2.out.2
    rw [q2]
    go_wp2
    go_ret
    exact ⟨ret_bool (by simp [stratB, *]), HB2.out⟩
  have hA := Lib.hid (allB_of q2)
  have hL : Hid (0 < ws.length) := (by have := beq_iff_eq.1 q1; show 0 < ws.length; omega)
  go_enter Tryd.func63, Tryd.ntmps63
  go_wp2_with fail
  have b0 := below_alloc1 w (.cells #[.int .i64 s, .slice A xs.length c] 25)
  have x0 := TBox.new w s (.slice A xs.length c) 25
  generalize w.alloc (.cells #[.int .i64 s, .slice A xs.length c] 25) = w0 at *
  have HX0 := Lib.hid x0
  have HB0 := Lib.hid b0
  clear x0 b0
  have y0_0 := HX0.out.1
  have y1_0 := HX0.out.2
  go_wp2_with fail
  refine (implTourOk s _ xs _ (HR.out.below HB0.out)).mono ?_
  rintro e w1 ⟨rfl, hb⟩
  have HX1 := Lib.hid (HX0.out.below hb)
  have HB1 := Lib.hid (Below.then HB0.out hb)
  clear hb HX0 HB0 y0_0 y1_0
  have y0_1 := HX1.out.1
  have y1_1 := HX1.out.2
  rw [q0]
  go_wp2_with fail
  refine (allWithin_any _ ws 0 100000 _ (HW.out.below HB1.out)).mono ?_
  rintro e w2 ⟨rfl, hb⟩
  have HX2 := Lib.hid (HX1.out.below hb)
  have HB2 := Lib.hid (Below.then HB1.out hb)
  clear hb HX1 HB1 y0_1 y1_1
  have y0_2 := HX2.out.1
  have y1_2 := HX2.out.2
  rw [q2]
  go_wp2_with fail
  refine (max_any _ ws _ (HW.out.below HB2.out) hL.out).mono ?_
  rintro e wz ⟨rfl, rfl⟩
  have hF : Hid (decide (0 < maxI ws) = stratB s xs ws) := by
    unfold Hid
    rw [max_sum (fun x hx => (hA.out x hx).1) hL.out, stratB, q0, q1, q2]
    rfl
  go_wp2
  go_ret
  exact ⟨ret_bool hF.out, HB2.out⟩
end Go.Proofs.YthoodjjjklbggaaDoor

namespace Go.Proofs.YthoodjjjklbggaaDoor
open Go.RowKit Go.Sort

/-- what player a adds to the balance of b -/
def balT (xs ws : List Int) (b a : Nat) : Int := if bitI (xs.getD a 0) b = true then ws.getD a 0 else if bitI (xs.getD b 0) a = true then - ws.getD a 0 else 0
def balK (xs ws : List Int) (b : Nat) : Nat → Int
  | 0 => 0
  | k + 1 => balK xs ws b k + balT xs ws b k
/-- the balance of player b -/
def balI (xs ws : List Int) (b : Nat) : Int := balK xs ws b ws.length
theorem balK_bd {xs ws : List Int} (b : Nat) (h : ∀ x ∈ ws, 0 ≤ x ∧ x ≤ 100000) (k : Nat) (hk : k ≤ ws.length) : -(100000 * (k : Int)) ≤ balK xs ws b k ∧ balK xs ws b k ≤ 100000 * k := by
  induction k with
  | zero => simp [balK]
  | succ k ih =>
    have ih := ih (by omega)
    have hx := h (ws.getD k 0) (by
      rw [List.getD_eq_getElem?_getD, List.getElem?_eq_getElem (by omega)]; exact List.getElem_mem _)
    simp only [balK, balT]
    repeat' split
    all_goals omega
theorem tour_excl {s : Int} {xs : List Int} (h : tourP s xs) {a b : Nat} (ha : a < xs.length) (hb : b < xs.length) (hab : bitI (xs.getD a 0) b = true) : bitI (xs.getD b 0) a = false := by
  have hT := h.2.2.2
  rcases Nat.lt_trichotomy a b with hlt | rfl | hlt
  · have := (hT b hb).2 a hlt
    rw [hab] at this
    cases hq : bitI (xs.getD b 0) a with
    | false => rfl
    | true => exact absurd hq this
  · have := (hT a ha).1
    rw [hab] at this
    cases this
  · have := (hT a ha).2 b hlt
    rw [hab] at this
    cases hq : bitI (xs.getD b 0) a with
    | false => rfl
    | true => rw [hq] at this; exact absurd rfl this

set_option maxHeartbeats 1000000 in
theorem balance_any (s : Int) (sl : Value) (xs : List Int) (wv : Value) (ws : List Int) (b : Int) (w : World) (h : Rd w sl xs) (h2 : Rd w wv ws) (hp : stratB s xs ws = true) (hb0 : 0 ≤ b) (hb1 : b < ws.length) :
    Calls Tryd.prog 64 #[.agg #[.int .i64 s, sl], wv, .int .i64 b] w fun e w' => e = .returned (.int .i64 (balI xs ws b.toNat)) ∧ Below w.heap.size w w' := by
  obtain ⟨b, rfl⟩ := Int.eq_ofNat_of_zero_le hb0
  obtain ⟨A, c, rfl, hl, hm, hc⟩ := h
  obtain ⟨B, d, rfl, hl2, hm2, hc2⟩ := h2
  unfold maxLen at hm hm2
  obtain ⟨tp, hls, hrange, -⟩ := stratB_true.1 hp
  have hxl : xs.length = ws.length := by have := tp.2.1; omega
  have h8 : ws.length ≤ 8 := by have := tp.1; omega
  have hbl : b < ws.length := by omega
  have HR := Lib.hid hrange
  have HC := Lib.hid hc
  have HC2 := Lib.hid hc2
  have HXL := Lib.hid hxl
  have x0 := TBox.new w s (.slice A xs.length c) 25
  have b0 := below_alloc1 w (.cells #[.int .i64 s, .slice A xs.length c] 25)
  have HB := Lib.hid b0
  have y0 := x0.1
  have y1 := x0.2
  clear hp tp hls hrange hc hc2 hxl x0 b0
  go_enter Tryd.func64, Tryd.ntmps64
  go_wp2
  generalize w.alloc (.cells #[.int .i64 s, .slice A xs.length c] 25) = w0 at *
  go_loop [7, 12] (fun u i => ∃ k : Nat, k ≤ ws.length ∧ i = .int .i64 k ∧ u = .int .i64 (balK xs ws b k)) (fun _ i => ws.length - (intOf i).toNat)
  case atStart => exact ⟨0, by omega, rfl, rfl⟩
  case round =>
    obtain ⟨k, hk, rfl, rfl⟩ := hrel
    by_cases hlt : k < ws.length
    · have hkx : k < xs.length := by rw [HXL.out]; exact hlt
      have hbx : b < xs.length := by rw [HXL.out]; exact hbl
      obtain ⟨g, off, rfl, hg, hx⟩ := HC.out (by omega)
      obtain ⟨g', off', rfl, hg', hy⟩ := HC2.out (by omega)
      have hxk := (HB.out.cell (by exact hg)).trans (hx k hkx)
      have hxb := (HB.out.cell (by exact hg)).trans (hx b hbx)
      have hyk := (HB.out.cell (by exact hg')).trans (hy k hlt)
      have hbd := balK_bd (xs := xs) b HR.out k (by omega)
      have hwk := HR.out ws[k] (List.getElem_mem hlt)
      have hst : balK xs ws b (k + 1) = balK xs ws b k + balT xs ws b k := rfl
      have e1 : xs.getD k 0 = xs[k] := by simp [hkx]
      have e2 : xs.getD b 0 = xs[b] := by simp [hbx]
      have e3 : ws.getD k 0 = ws[k] := by simp [hlt]
      rw [e1] at hxk
      rw [e2] at hxb
      rw [e3] at hyk
      have HT : Hid (balT xs ws b k = if bitI xs[k] b = true then ws[k] else if bitI xs[b] k = true then - ws[k] else 0) := by unfold Hid balT; rw [e1, e2, e3]
      have HS := Lib.hid hst
      clear hx hy hst e1 e2 e3
      generalize balK xs ws b k = m at *
      rcases q1 : bitI xs[k] b with _ | _
      · have q1' : (bits BinOp.and IntKind.i64 (xs[k] / 2 ^ b) 1 == 1) = false := by rw [bit_walk]; exact q1
        rcases q2 : bitI xs[b] k with _ | _
        · have q2' : (bits BinOp.and IntKind.i64 (xs[b] / 2 ^ k) 1 == 1) = false := by rw [bit_walk]; exact q2
          go_wp2
          go_round
          case rel => exact ⟨k + 1, by omega, by go_num, by rw [HS.out, HT.out, q1, q2]; simp⟩
          case measure => simp [intOf]; omega
        · have q2' : (bits BinOp.and IntKind.i64 (xs[b] / 2 ^ k) 1 == 1) = true := by rw [bit_walk]; exact q2
          go_wp2
          go_round
          case rel => exact ⟨k + 1, by omega, by go_num, by rw [HS.out, HT.out, q1, q2]; simp; omega⟩
          case measure => simp [intOf]; omega
      · have q1' : (bits BinOp.and IntKind.i64 (xs[k] / 2 ^ b) 1 == 1) = true := by rw [bit_walk]; exact q1
        go_wp2
        go_round
        case rel => exact ⟨k + 1, by omega, by go_num, by rw [HS.out, HT.out, q1]; simp⟩
        case measure => simp [intOf]; omega
    · obtain rfl : k = ws.length := by omega
      go_wp2
      go_ret
      exact ⟨rfl, HB.out⟩
end Go.Proofs.YthoodjjjklbggaaDoor

namespace Go.Proofs.YthoodjjjklbggaaDoor
open Go.RowKit Go.Sort

noncomputable def balOfI (s : Int) (xs ws : List Int) (b : Int) : Int := if (stratB s xs ws && inB b 0 (s - 1)) = true then balI xs ws b.toNat else 0
/-- no balance of the first k is negative -/
def safeK (xs ws : List Int) (k : Nat) : Bool := (List.range k).all fun b => decide (0 ≤ balI xs ws b)
noncomputable def safeB (s : Int) (xs ws : List Int) : Bool := stratB s xs ws && safeK xs ws ws.length
theorem safeK_true {xs ws : List Int} {k : Nat} : safeK xs ws k = true ↔ ∀ b, b < k → 0 ≤ balI xs ws b := by simp [safeK]
theorem safeK_no {xs ws : List Int} {k n : Nat} (hk : k < n) (h : balI xs ws k < 0) : safeK xs ws n = false := by
  rcases hq : safeK xs ws n with _ | _
  · rfl
  · have := safeK_true.1 hq k hk; omega
def bestN (xs ws : List Int) : Nat → Nat
  | 0 => 0
  | k + 1 => if balI xs ws k < balI xs ws (bestN xs ws k) then k else bestN xs ws k
theorem bestN_lt (xs ws : List Int) (k : Nat) : bestN xs ws k ≤ k - 1 := by
  induction k with
  | zero => simp [bestN]
  | succ k ih => simp only [bestN]; split <;> omega
noncomputable def bestI (s : Int) (xs ws : List Int) : Int := if stratB s xs ws = true then bestN xs ws ws.length else -1
theorem strat_dim {s : Int} {xs ws : List Int} (h : stratB s xs ws = true) : 1 ≤ s ∧ s ≤ 8 ∧ (ws.length : Int) = s ∧ (xs.length : Int) = s := by
  obtain ⟨tp, hl, -, -⟩ := stratB_true.1 h
  exact ⟨tp.1.1, tp.1.2, hl, tp.2.1⟩
theorem balI_bd {s : Int} {xs ws : List Int} (h : stratB s xs ws = true) (b : Nat) : -800000 ≤ balI xs ws b ∧ balI xs ws b ≤ 800000 := by
  have hd := strat_dim h
  have := balK_bd (xs := xs) b (stratB_true.1 h).2.2.1 ws.length (Nat.le_refl _)
  unfold balI; omega


set_option maxHeartbeats 1000000 in
theorem implIsSafe (s : Int) (sl : Value) (xs : List Int) (wv : Value) (ws : List Int) (w : World) (h : Rd w sl xs) (h2 : Rd w wv ws) :
    Calls Tryd.prog 30 #[.agg #[.int .i64 s, sl], wv] w fun e w' => e = .returned (.bool (safeB s xs ws)) ∧ Below w.heap.size w w' := by
  have HR := Lib.hid h
  have HW := Lib.hid h2
  obtain ⟨A, c, rfl, -, -, -⟩ := h
  obtain ⟨B, d, rfl, -, hm, -⟩ := h2
  unfold maxLen at hm
  rcases q0 : stratB s xs ws with _ | _
  case false =>
    go_enter Tryd.func30, Tryd.ntmps30
    go_wp2_with fail
    have b0 := below_alloc1 w (.cells #[.int .i64 s, .slice A xs.length c] 25)
    have x0 := TBox.new w s (.slice A xs.length c) 25
    generalize w.alloc (.cells #[.int .i64 s, .slice A xs.length c] 25) = w0 at *
    have HX0 := Lib.hid x0
    have HB0 := Lib.hid b0
    clear x0 b0
    have y0_0 := HX0.out.1
    have y1_0 := HX0.out.2
    go_wp2_with fail
    refine (implStrat s _ xs _ ws _ (HR.out.below HB0.out) (HW.out.below HB0.out)).mono ?_
    rintro e w1 ⟨rfl, hb⟩
    have HX1 := Lib.hid (HX0.out.below hb)
    have HB1 := Lib.hid (Below.then HB0.out hb)
    clear hb HX0 HB0 y0_0 y1_0
    have y0_1 := HX1.out.1
    have y1_1 := HX1.out.2
    rw [q0]
    go_wp2
    go_ret
    exact ⟨ret_bool (by simp [safeB, *]), HB1.out⟩
  have hs := strat_dim q0
  go_enter Tryd.func30, Tryd.ntmps30
  go_wp2_with fail
  have b0 := below_alloc1 w (.cells #[.int .i64 s, .slice A xs.length c] 25)
  have x0 := TBox.new w s (.slice A xs.length c) 25
  generalize w.alloc (.cells #[.int .i64 s, .slice A xs.length c] 25) = w0 at *
  have HX0 := Lib.hid x0
  have HB0 := Lib.hid b0
  clear x0 b0
  have y0_0 := HX0.out.1
  have y1_0 := HX0.out.2
  go_wp2_with fail
  refine (implStrat s _ xs _ ws _ (HR.out.below HB0.out) (HW.out.below HB0.out)).mono ?_
  rintro e w1 ⟨rfl, hb⟩
  have HX1 := Lib.hid (HX0.out.below hb)
  have HB1 := Lib.hid (Below.then HB0.out hb)
  clear hb HX0 HB0 y0_0 y1_0
  have y0_1 := HX1.out.1
  have y1_1 := HX1.out.2
  rw [q0]
  have HS := Lib.hid hs.2.2.1
  go_wp2
  go_loopw [12] (fun i wr => ∃ k : Nat, k ≤ ws.length ∧ i = .int .i64 k ∧ Hid (∀ b, b < k → 0 ≤ balI xs ws b) ∧ Below w.heap.size w wr ∧ TBox wr w.heap.size s (.slice A xs.length c)) (fun i _ => ws.length - (intOf i).toNat)
  case atStart => exact ⟨0, by omega, rfl, fun _ h => absurd h (by omega), HB1.out, HX1.out⟩
  case round =>
    obtain ⟨k, hk, rfl, HP, hb, hx⟩ := hrel
    have HB2 := Lib.hid hb
    have HX2 := Lib.hid hx
    have y0_2 := hx.1
    have y1_2 := hx.2
    clear hx hb HB1 HX1 y0_1 y1_1
    by_cases hlt : k < ws.length
    · have hbd := balI_bd q0 k
      go_wp2_with fail
      refine (balance_any s _ xs _ ws k _ (HR.out.below HB2.out) (HW.out.below HB2.out) q0 (by omega) (by omega)).mono ?_
      rintro e w3 ⟨rfl, hb⟩
      have HX3 := Lib.hid (HX2.out.below hb)
      have HB3 := Lib.hid (Below.then HB2.out hb)
      clear hb HX2 HB2 y0_2 y1_2
      have y0_3 := HX3.out.1
      have y1_3 := HX3.out.2
      rw [show ((k : Int)).toNat = k from rfl]
      rcases q2 : decide (balI xs ws k < 0) with _ | _
      · have hp := of_decide_eq_false q2
        go_wp2
        go_roundw
        case rel =>
          refine ⟨k + 1, by omega, by go_num, fun b hb => ?_, HB3.out, HX3.out⟩
          by_cases hbk : b < k
          · exact HP.out b hbk
          · obtain rfl : b = k := by omega
            omega
        case measure => simp [intOf]; omega
      · have hp := of_decide_eq_true q2
        go_wp2
        go_ret
        exact ⟨ret_bool (by rw [safeB, q0, safeK_no hlt hp]; rfl), HB3.out⟩
    · obtain rfl : k = ws.length := by omega
      go_wp2
      go_ret
      exact ⟨ret_bool (by rw [safeB, q0, safeK_true.2 HP.out]; rfl), HB2.out⟩

end Go.Proofs.YthoodjjjklbggaaDoor

namespace Go.Proofs.YthoodjjjklbggaaDoor
open Go.RowKit Go.Sort

end Go.Proofs.YthoodjjjklbggaaDoor

