/- Texts put together: SymA. -/
import Derived.Test.YthoodjjjklbggaaGreatDoorMTriangles19
namespace Go.Proofs.YthoodjjjklbggaaGreatDoor
open Go.RowKit Go.Sort
set_option maxRecDepth 100000
theorem at_one (P : List Int) (x : Int) (R : List Int) : (P ++ [x] ++ R).getD P.length 0 = x := by
  rw [List.append_assoc, List.getD_eq_getElem?_getD, List.getElem?_append_right (Nat.le_refl _), Nat.sub_self]; rfl
theorem at_row (P Y S : List Int) (k : Nat) (h : k < Y.length) : (P ++ Y ++ S).getD (P.length + k) 0 = Y.getD k 0 := by
  rw [List.append_assoc, List.getD_eq_getElem?_getD, List.getElem?_append_right (by omega), show P.length + k - P.length = k by omega, List.getElem?_append_left h, ← List.getD_eq_getElem?_getD]
/-- a step of the element that wanders to the right -/
theorem midR_up (S : List Int) (x : Int) (rest : List Int) (j : Nat) (h : j < S.length) : ((midR S x rest j).set j (S.getD j 0)).set (j + 1) x = midR S x rest (j + 1) := by
  have e1 : S.take (j + 1) = S.take j ++ [S.getD j 0] := by
    rw [List.take_succ_eq_append_getElem (by omega), show S.getD j 0 = S[j] by simp [show j < S.length by omega]]
  have e2 : S.drop j = S.getD j 0 :: S.drop (j + 1) := drop_eq' h
  have hlj : (S.take j).length = j := by rw [List.length_take]; omega
  unfold midR
  rw [e1, e2]
  generalize S.getD j 0 = y
  generalize S.take j = P at *
  simp only [List.append_assoc, List.cons_append, List.nil_append]
  rw [List.set_append_right _ _ (by omega), hlj, Nat.sub_self, List.set_cons_zero, List.set_append_right _ _ (by omega), hlj, show j + 1 - j = 1 by omega, List.set_cons_succ, List.set_cons_zero]
theorem midR_next (S : List Int) (x : Int) (rest : List Int) (j : Nat) (h : j < S.length) : (midR S x rest j).getD (j + 1) 0 = S.getD j 0 := by
  have e2 : S.drop j = S.getD j 0 :: S.drop (j + 1) := drop_eq' h
  have hlj : (S.take j).length = j := by rw [List.length_take]; omega
  unfold midR
  rw [e2, List.append_assoc, List.getD_eq_getElem?_getD, List.getElem?_append_right (by omega), hlj, show j + 1 - j = 1 by omega]
  rfl
/-- the same behind a row P -/
theorem pre_at (P L : List Int) (k : Nat) : (P ++ L).getD (P.length + k) 0 = L.getD k 0 := by
  rw [List.getD_eq_getElem?_getD, List.getElem?_append_right (by omega), show P.length + k - P.length = k by omega, ← List.getD_eq_getElem?_getD]
theorem pre_set (P L : List Int) (k : Nat) (y : Int) : (P ++ L).set (P.length + k) y = P ++ L.set k y := by
  rw [List.set_append_right _ _ (by omega), show P.length + k - P.length = k by omega]
/-- a binary search between m and b -/
def BinR (m b : Nat) (lo hi : Nat → Prop) (i j : Value) : Prop := ∃ i' j' : Nat, m ≤ i' ∧ i' ≤ j' ∧ j' ≤ b ∧ i = .int .i64 i' ∧ j = .int .i64 j' ∧ (∀ k, k < i' → lo k) ∧ (∀ k, j' ≤ k → hi k)
theorem BinR.mk' {m b : Nat} {lo hi : Nat → Prop} {i j : Int} (i' j' : Nat) (h1 : m ≤ i') (h2 : i' ≤ j') (h3 : j' ≤ b) (hi' : (i' : Int) = i) (hj' : (j' : Int) = j) (hl : ∀ k, k < i' → lo k) (hh : ∀ k, j' ≤ k → hi k) : BinR m b lo hi (.int .i64 i) (.int .i64 j) :=
  ⟨i', j', h1, h2, h3, by rw [hi'], by rw [hj'], hl, hh⟩
end Go.Proofs.YthoodjjjklbggaaGreatDoor

