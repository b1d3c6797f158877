/- slices.SortStableFunc at few elements: insertion by a closure's contract. -/
import Derived.Test.YtceeplhkokajhabHof
import Derived.Test.YtceeplhkokajhabTail
import Derived.Test.YtceeplhkokajhabOwn0
import Derived.Test.YtceeplhkokajhabTourLw
import Derived.Test.YtceeplhkokajhabBits
import Derived.Deep.RegionLaw
namespace Go.Proofs.Ytceeplhkokajhab
open Go.RowKit Go.Sort
set_option maxRecDepth 100000

/-- from the right: how far x goes -/
def posR (bef : Int → Int → Bool) (x : Int) (S : List Int) : Nat → Nat
  | 0 => 0
  | k + 1 => if bef x (S.getD k 0) = true then posR bef x S k else k + 1
def insR (bef : Int → Int → Bool) (S : List Int) (x : Int) : List Int := S.take (posR bef x S S.length) ++ x :: S.drop (posR bef x S S.length)
def sortR (bef : Int → Int → Bool) (L : List Int) : List Int := L.foldl (insR bef) []
theorem posR_le (bef : Int → Int → Bool) (x : Int) (S : List Int) (k : Nat) : posR bef x S k ≤ k := by
  induction k with
  | zero => exact Nat.le_refl _
  | succ k ih =>
    simp only [posR]
    split <;> omega
theorem posR_go {bef : Int → Int → Bool} {x : Int} {S : List Int} {k : Nat} (h : bef x (S.getD k 0) = true) : posR bef x S (k + 1) = posR bef x S k := by simp only [posR, h, if_true]
theorem posR_stop {bef : Int → Int → Bool} {x : Int} {S : List Int} {k : Nat} (h : bef x (S.getD k 0) = false) : posR bef x S (k + 1) = k + 1 := by simp only [posR, h]; rfl
theorem insR_len (bef : Int → Int → Bool) (S : List Int) (x : Int) : (insR bef S x).length = S.length + 1 := by
  have := posR_le bef x S S.length
  unfold insR
  simp; omega
theorem sortR_succ (bef : Int → Int → Bool) (L : List Int) {i : Nat} (h : i < L.length) : sortR bef (L.take (i + 1)) = insR bef (sortR bef (L.take i)) (L.getD i 0) := by
  unfold sortR
  rw [List.take_succ_eq_append_getElem h, List.foldl_append, show L.getD i 0 = L[i] by simp [h]]
  rfl
theorem sortR_len (bef : Int → Int → Bool) (L : List Int) {i : Nat} (h : i ≤ L.length) : (sortR bef (L.take i)).length = i := by
  induction i with
  | zero => rfl
  | succ i ih => rw [sortR_succ bef L (by omega), insR_len, ih (by omega)]
/-- the row while x is on its way: it stands at j -/
def midR (S : List Int) (x : Int) (rest : List Int) (j : Nat) : List Int := S.take j ++ x :: S.drop j ++ rest
theorem midR_len (S : List Int) (x : Int) (rest : List Int) (j : Nat) (h : j ≤ S.length) : (midR S x rest j).length = S.length + 1 + rest.length := by
  unfold midR; simp; omega
theorem midR_at (S : List Int) (x : Int) (rest : List Int) (j : Nat) (h : j ≤ S.length) : (midR S x rest j).getD j 0 = x := by
  unfold midR
  have hl : (S.take j).length = j := by rw [List.length_take]; omega
  rw [List.append_assoc, List.getD_eq_getElem?_getD, List.getElem?_append_right (by omega), hl, Nat.sub_self]
  rfl
theorem midR_prev (S : List Int) (x : Int) (rest : List Int) (j : Nat) (h : j + 1 ≤ S.length) : (midR S x rest (j + 1)).getD j 0 = S.getD j 0 := by
  unfold midR
  have hl : (S.take (j + 1)).length = j + 1 := by rw [List.length_take]; omega
  rw [List.append_assoc, List.getD_eq_getElem?_getD, List.getElem?_append_left (by omega), List.getElem?_take, if_pos (by omega), ← List.getD_eq_getElem?_getD]
theorem midR_swap (S : List Int) (x : Int) (rest : List Int) (j : Nat) (h : j + 1 ≤ S.length) : ((midR S x rest (j + 1)).set (j + 1) (S.getD j 0)).set j x = midR S x rest j := by
  have e1 : S.take (j + 1) = S.take j ++ [S.getD j 0] := by
    rw [List.take_succ_eq_append_getElem (by omega), show S.getD j 0 = S[j] by simp [show j < S.length by omega]]
  have e2 : S.drop j = S.getD j 0 :: S.drop (j + 1) := by
    rw [List.drop_eq_getElem_cons (by omega : j < S.length), show S.getD j 0 = S[j] by simp [show j < S.length by omega]]
  have hlj : (S.take j).length = j := by rw [List.length_take]; omega
  unfold midR
  rw [e1, e2]
  generalize S.getD j 0 = y
  generalize S.take j = P at *
  simp only [List.append_assoc, List.cons_append, List.nil_append]
  rw [List.set_append_right _ _ (by omega), hlj, show j + 1 - j = 1 by omega, List.set_cons_succ, List.set_cons_zero, List.set_append_right _ _ (by omega), hlj, Nat.sub_self, List.set_cons_zero]
theorem midR_start (S : List Int) (x : Int) (rest : List Int) : midR S x rest S.length = S ++ x :: rest := by
  unfold midR; simp
theorem midR_end (bef : Int → Int → Bool) (S : List Int) (x : Int) (rest : List Int) (j : Nat) (h : posR bef x S S.length = j) : midR S x rest j = insR bef S x ++ rest := by
  unfold midR insR; rw [h]
theorem mem_insR {bef : Int → Int → Bool} {S : List Int} {x y : Int} (h : y ∈ insR bef S x) : y = x ∨ y ∈ S := by
  unfold insR at h
  rw [List.mem_append, List.mem_cons] at h
  rcases h with h | h | h
  · exact .inr (List.mem_of_mem_take h)
  · exact .inl h
  · exact .inr (List.mem_of_mem_drop h)
theorem mem_sortR {bef : Int → Int → Bool} {L : List Int} {y : Int} {i : Nat} (hi : i ≤ L.length) (h : y ∈ sortR bef (L.take i)) : y ∈ L := by
  induction i with
  | zero => simp [sortR] at h
  | succ i ih =>
    rw [sortR_succ bef L (by omega)] at h
    rcases mem_insR h with rfl | h
    · rw [show L.getD i 0 = L[i] by simp [show i < L.length by omega]]; exact List.getElem_mem _
    · exact ih (by omega) h
theorem drop_eq' {L : List Int} {k : Nat} (h : k < L.length) : L.drop k = L.getD k 0 :: L.drop (k + 1) := by
  rw [List.drop_eq_getElem_cons h, show L.getD k 0 = L[k] by simp [h]]
theorem getD_memI {L : List Int} {i : Nat} (h : i < L.length) : L.getD i 0 ∈ L := by
  rw [show L.getD i 0 = L[i] by simp [h]]; exact List.getElem_mem h
theorem sortR_one (bef : Int → Int → Bool) (L : List Int) (h : 1 ≤ L.length) : sortR bef (L.take 1) ++ L.drop 1 = L := by
  cases L with
  | nil => simp at h
  | cons x L => simp [sortR, insR, posR]
end Go.Proofs.Ytceeplhkokajhab
