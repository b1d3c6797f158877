/- the merge of two sorted blocks: plain facts. -/
import Derived.Test.YtdmneccfbfdloaaSortI
namespace Go.Proofs.Ytdmneccfbfdloaa
set_option maxRecDepth 100000
def LtK (K : Int → Int) (x y : Int) : Prop := K x < K y ∨ (K x = K y ∧ x < y)
theorem LtK.trans {K : Int → Int} {x y z : Int} (h1 : LtK K x y) (h2 : LtK K y z) : LtK K x z := by
  unfold LtK at *
  omega
theorem LtK.le {K : Int → Int} {x y : Int} (h1 : LtK K x y) : K x ≤ K y := by
  unfold LtK at *
  omega
theorem ltK_of {K : Int → Int} {x y : Int} (h : ¬ K y < K x) (hl : x < y) : LtK K x y := by
  unfold LtK at *
  omega
theorem sorted_K {K : Int → Int} {X : List Int} (h : X.Pairwise (LtK K)) {i j : Nat} (hij : i ≤ j) (hj : j < X.length) : K (X.getD i 0) ≤ K (X.getD j 0) := by
  rcases Nat.lt_or_ge i j with hlt | hge
  · have := (List.pairwise_iff_getElem.1 h i j (by omega) hj hlt).le
    rw [show X.getD i 0 = X[i] by simp [show i < X.length by omega], show X.getD j 0 = X[j] by simp [hj]]
    exact this
  · have : i = j := by omega
    subst this; exact Int.le_refl _
theorem take_mem {X : List Int} {i : Nat} {x : Int} (h : x ∈ X.take i) : ∃ k, k < i ∧ k < X.length ∧ X.getD k 0 = x := by
  obtain ⟨k, hk, rfl⟩ := List.mem_iff_getElem.1 h
  rw [List.length_take] at hk
  exact ⟨k, by omega, by omega, by rw [List.getElem_take]; simp [show k < X.length by omega]⟩
theorem drop_mem {X : List Int} {i : Nat} {x : Int} (h : x ∈ X.drop i) : ∃ k, i ≤ k ∧ k < X.length ∧ X.getD k 0 = x := by
  obtain ⟨k, hk, rfl⟩ := List.mem_iff_getElem.1 h
  rw [List.length_drop] at hk
  exact ⟨i + k, by omega, by omega, by rw [List.getElem_drop]; simp [show i + k < X.length by omega]⟩
theorem pw_take {K : Int → Int} {X : List Int} (h : X.Pairwise (LtK K)) (i : Nat) : (X.take i).Pairwise (LtK K) := h.sublist (List.take_sublist i X)
theorem pw_drop {K : Int → Int} {X : List Int} (h : X.Pairwise (LtK K)) (i : Nat) : (X.drop i).Pairwise (LtK K) := h.sublist (List.drop_sublist i X)
theorem pw_cross {K : Int → Int} {X : List Int} (h : X.Pairwise (LtK K)) (i : Nat) : ∀ x ∈ X.take i, ∀ y ∈ X.drop i, LtK K x y := by
  have h2 := h
  rw [← List.take_append_drop i X, List.pairwise_append] at h2
  exact h2.2.2
/-- one element goes into the row behind it -/
theorem ins_left {K : Int → Int} {x : Int} {Y : List Int} {i : Nat} (hY : Y.Pairwise (LtK K)) (hx : ∀ y ∈ Y, x < y) (hlo : ∀ k, k < i → k < Y.length → K (Y.getD k 0) < K x) (hhi : ∀ k, i ≤ k → k < Y.length → ¬ K (Y.getD k 0) < K x) :
    (Y.take i ++ x :: Y.drop i).Pairwise (LtK K) ∧ (Y.take i ++ x :: Y.drop i).Perm ([x] ++ Y) := by
  constructor
  · rw [List.pairwise_append, List.pairwise_cons]
    refine ⟨pw_take hY i, ⟨fun y hy => ?_, pw_drop hY i⟩, fun y hy z hz => ?_⟩
    · obtain ⟨k, h1, h2, rfl⟩ := drop_mem hy
      exact ltK_of (hhi k h1 h2) (hx _ (List.mem_of_mem_drop hy))
    · rcases List.mem_cons.1 hz with rfl | hz
      · obtain ⟨k, h1, h2, rfl⟩ := take_mem hy
        exact .inl (hlo k h1 h2)
      · exact pw_cross hY i y hy z hz
  · refine List.perm_middle.trans ?_
    rw [List.take_append_drop]
    exact .refl _
/-- one element goes into the row ahead of it -/
theorem ins_right {K : Int → Int} {y : Int} {X : List Int} {i : Nat} (hX : X.Pairwise (LtK K)) (hy : ∀ x ∈ X, x < y) (hlo : ∀ k, k < i → k < X.length → ¬ K y < K (X.getD k 0)) (hhi : ∀ k, i ≤ k → k < X.length → K y < K (X.getD k 0)) :
    (X.take i ++ y :: X.drop i).Pairwise (LtK K) ∧ (X.take i ++ y :: X.drop i).Perm (X ++ [y]) := by
  constructor
  · rw [List.pairwise_append, List.pairwise_cons]
    refine ⟨pw_take hX i, ⟨fun x hx => ?_, pw_drop hX i⟩, fun x hx z hz => ?_⟩
    · obtain ⟨k, h1, h2, rfl⟩ := drop_mem hx
      exact .inl (hhi k h1 h2)
    · rcases List.mem_cons.1 hz with rfl | hz
      · obtain ⟨k, h1, h2, rfl⟩ := take_mem hx
        exact ltK_of (hlo k h1 h2) (hy _ (List.mem_of_mem_take hx))
      · exact pw_cross hX i x hx z hz
  · refine List.perm_middle.trans ?_
    rw [List.take_append_drop]
    exact (List.perm_append_comm (l₁ := [y]))
/-- the split of the symmetric merge: positions s of X and t of Y -/
theorem split_cross {K : Int → Int} {X Y : List Int} {s t : Nat} (hX : X.Pairwise (LtK K)) (hY : Y.Pairwise (LtK K)) (hx : ∀ x ∈ X, ∀ y ∈ Y, x < y) (h1 : 0 < s → t < Y.length → ¬ K (Y.getD t 0) < K (X.getD (s - 1) 0)) (h2 : s < X.length → 0 < t → K (Y.getD (t - 1) 0) < K (X.getD s 0)) (hs : s ≤ X.length) (ht : t ≤ Y.length) :
    ∀ x ∈ X.take s ++ Y.take t, ∀ y ∈ X.drop s ++ Y.drop t, LtK K x y := by
  intro x mx y my
  rw [List.mem_append] at mx my
  rcases mx with mx | mx <;> rcases my with my | my
  · exact pw_cross hX s x mx y my
  · have hlt := hx x (List.mem_of_mem_take mx) y (List.mem_of_mem_drop my)
    obtain ⟨i, i1, i2, rfl⟩ := take_mem mx
    obtain ⟨j, j1, j2, rfl⟩ := drop_mem my
    have e1 := sorted_K hX (i := i) (j := s - 1) (by omega) (by omega)
    have e2 := sorted_K hY (i := t) (j := j) (by omega) (by omega)
    have e3 := h1 (by omega) (by omega)
    exact ltK_of (by omega) hlt
  · obtain ⟨i, i1, i2, rfl⟩ := take_mem mx
    obtain ⟨j, j1, j2, rfl⟩ := drop_mem my
    have e1 := sorted_K hY (i := i) (j := t - 1) (by omega) (by omega)
    have e2 := sorted_K hX (i := s) (j := j) (by omega) (by omega)
    have e3 := h2 (by omega) (by omega)
    exact .inl (by omega)
  · exact pw_cross hY t x mx y my
theorem merge_join {K : Int → Int} {X1 X2 Y1 Y2 M1 M2 : List Int} (p1 : M1.Perm (X1 ++ Y1)) (p2 : M2.Perm (X2 ++ Y2)) (s1 : M1.Pairwise (LtK K)) (s2 : M2.Pairwise (LtK K)) (hc : ∀ x ∈ X1 ++ Y1, ∀ y ∈ X2 ++ Y2, LtK K x y) :
    (M1 ++ M2).Perm ((X1 ++ X2) ++ (Y1 ++ Y2)) ∧ (M1 ++ M2).Pairwise (LtK K) := by
  constructor
  · refine (p1.append p2).trans ?_
    rw [List.append_assoc, List.append_assoc]
    refine List.Perm.append_left X1 ?_
    rw [← List.append_assoc, ← List.append_assoc]
    exact List.Perm.append_right Y2 List.perm_append_comm
  · rw [List.pairwise_append]
    exact ⟨s1, s2, fun x hx y hy => hc x (p1.mem_iff.1 hx) y (p2.mem_iff.1 hy)⟩
/-- sorted and of the same elements: the same list -/
theorem ltK_unique {K : Int → Int} : ∀ {A B : List Int}, A.Pairwise (LtK K) → B.Pairwise (LtK K) → A.Perm B → A = B
  | [], B, _, _, p => (List.nil_perm.1 p).symm
  | a :: A, [], _, _, p => by have := p.length_eq; simp at this
  | a :: A, b :: B, hA, hB, p => by
    rw [List.pairwise_cons] at hA hB
    have hab : a = b := by
      have ha : a ∈ b :: B := p.mem_iff.1 List.mem_cons_self
      have hb : b ∈ a :: A := p.mem_iff.2 List.mem_cons_self
      rcases List.mem_cons.1 ha with h | h
      · exact h
      · rcases List.mem_cons.1 hb with h' | h'
        · exact h'.symm
        · have h1 := hB.1 a h
          have h2 := hA.1 b h'
          unfold LtK at h1 h2
          omega
    subst hab
    rw [ltK_unique hA.2 hB.2 (List.perm_cons a |>.1 p)]
end Go.Proofs.Ytdmneccfbfdloaa
