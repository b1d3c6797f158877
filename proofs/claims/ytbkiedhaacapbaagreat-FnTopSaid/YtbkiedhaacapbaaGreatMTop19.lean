/- Texts put together: Conn, Conn2. -/
import Derived.Test.YtbkiedhaacapbaaGreatMTop02
import Derived.Test.YtbkiedhaacapbaaGreatMTop01
import Derived.Deep.DeepCutAuto
namespace Go.Proofs.YtbkiedhaacapbaaGreat
open Go.RowKit

/-- what is asked of element number j -/
def connAt (n : Int) (xs : List Int) (j : Nat) : Prop := (1 ≤ xs.getD j 0 ∧ xs.getD j 0 ≤ n - 1) ∧ (0 < j → xs.getD (j - 1) 0 < xs.getD j 0) ∧ n - xs.getD j 0 ∉ xs
def connP (n : Int) (xs : List Int) : Prop := (n = 1 ∨ n = 3 ∨ n = 5 ∨ n = 7) ∧ (∀ j, j < xs.length → connAt n xs j) ∧ (xs.length : Int) = n / 2
noncomputable def connB (n : Int) (xs : List Int) : Bool := @decide (connP n xs) (Classical.propDecidable _)
theorem connB_true {n : Int} {xs : List Int} (h : connP n xs) : connB n xs = true := by unfold connB; simp [h]
theorem connB_false {n : Int} {xs : List Int} (h : ¬ connP n xs) : connB n xs = false := by unfold connB; simp [h]

theorem conn_no {n : Int} {xs : List Int} {k : Nat} (hk : k < xs.length) (h : ¬ connAt n xs k) : connB n xs = false := connB_false fun hp => h (hp.2.1 k hk)
theorem conn_no1 {n : Int} {xs : List Int} {k l : Nat} (hl : xs.length = l) (hk : k < l) (hW : inB (xs[k]?.getD 0) 1 (n - 1) = false) : connB n xs = false :=
  conn_no (k := k) (by omega) fun h => by
    have := inB_false.1 hW
    rw [← List.getD_eq_getElem?_getD] at this
    exact this h.1
theorem conn_no2 {n : Int} {xs : List Int} {k l : Nat} (hl : xs.length = l) (hk : k < l) (h0 : 0 < k) (h : xs[k]?.getD 0 ≤ xs[k - 1]?.getD 0) : connB n xs = false :=
  conn_no (k := k) (by omega) fun hh => by
    have := hh.2.1 h0
    rw [List.getD_eq_getElem?_getD, List.getD_eq_getElem?_getD] at this
    omega
theorem conn_no3 {n : Int} {xs : List Int} {k l : Nat} (hl : xs.length = l) (hk : k < l) (hC : containsI xs (n - xs[k]?.getD 0) = true) : connB n xs = false :=
  conn_no (k := k) (by omega) fun hh => by
    have := hh.2.2
    rw [List.getD_eq_getElem?_getD] at this
    simp [containsI] at hC
    exact this hC
theorem conn_yes {n : Int} {xs : List Int} {k : Nat} (hW : inB (xs[k]?.getD 0) 1 (n - 1) = true) (hC : containsI xs (n - xs[k]?.getD 0) = false) (h : 0 < k → xs[k - 1]?.getD 0 < xs[k]?.getD 0)
    (HP : ∀ j, j < k → connAt n xs j) : ∀ j, j < k + 1 → connAt n xs j := by
  intro j hj
  by_cases hjk : j < k
  · exact HP j hjk
  · obtain rfl : j = k := by omega
    refine ⟨?_, ?_, ?_⟩
    · rw [List.getD_eq_getElem?_getD]; exact inB_true.1 hW
    · rw [List.getD_eq_getElem?_getD, List.getD_eq_getElem?_getD]; exact h
    · rw [List.getD_eq_getElem?_getD]; simpa [containsI] using hC

end Go.Proofs.YtbkiedhaacapbaaGreat

namespace Go.Proofs.YtbkiedhaacapbaaGreat
open Go.RowKit

def specAt (n : Int) (xs : List Int) (j : Nat) : Prop := (1 ≤ xs.getD j 0 ∧ xs.getD j 0 ≤ n - 1) ∧ (0 < j → xs.getD (j - 1) 0 < xs.getD j 0) ∧ n - xs.getD j 0 ∉ xs.take j
theorem mem_take_getD {xs : List Int} {k : Nat} {x : Int} (hk : k ≤ xs.length) : x ∈ xs.take k ↔ ∃ j, j < k ∧ x = xs.getD j 0 := by
  rw [List.mem_iff_getElem?]
  constructor
  · rintro ⟨j, hj⟩
    rw [List.getElem?_take] at hj
    by_cases h : j < k
    · rw [if_pos h] at hj
      exact ⟨j, h, by rw [List.getD_eq_getElem?_getD, hj]; rfl⟩
    · rw [if_neg h] at hj; cases hj
  · rintro ⟨j, hj, rfl⟩
    refine ⟨j, ?_⟩
    rw [List.getElem?_take, if_pos hj, List.getD_eq_getElem?_getD, List.getElem?_eq_getElem (by omega)]
    rfl
theorem spec_mono {n : Int} {xs : List Int} {k : Nat} (h : ∀ j, j < k → specAt n xs j) : ∀ j i, i ≤ j → j < k → xs.getD i 0 ≤ xs.getD j 0 := by
  intro j
  induction j with
  | zero => intro i hi _; obtain rfl : i = 0 := by omega
            exact Int.le_refl _
  | succ j ih =>
    intro i hi hj
    by_cases e : i = j + 1
    · subst e; exact Int.le_refl _
    · have h1 := ih i (by omega) (by omega)
      have h2 := (h (j + 1) hj).2.1 (by omega)
      simp only [Nat.add_sub_cancel] at h2
      omega
theorem spec_all {n : Int} {xs : List Int} (hN : n = 1 ∨ n = 3 ∨ n = 5 ∨ n = 7) (hL : (xs.length : Int) = n / 2) (h : ∀ j, j < xs.length → specAt n xs j) : connP n xs := by
  refine ⟨hN, fun j hj => ⟨(h j hj).1, (h j hj).2.1, fun hm => ?_⟩, hL⟩
  have hm' : n - xs.getD j 0 ∈ xs.take xs.length := by rwa [List.take_length]
  obtain ⟨i, hi, e⟩ := (mem_take_getD (Nat.le_refl _)).1 hm'
  rcases Nat.lt_trichotomy i j with hij | hij | hij
  · exact (h j hj).2.2 ((mem_take_getD (by omega)).2 ⟨i, hij, e⟩)
  · subst hij; omega
  · exact (h i hi).2.2 ((mem_take_getD (by omega)).2 ⟨j, hij, by omega⟩)
theorem spec_set {n : Int} {xs : List Int} {k S l : Nat} (hl : xs.length = l) (hk : k < l) (hn7 : n ≤ 7) (hW : inB (xs[k]?.getD 0) 1 (n - 1) = true) (hlt : 0 < k → xs[k - 1]?.getD 0 < xs[k]?.getD 0)
    (hb : (bits BinOp.and IntKind.i64 ((S : Int) / 2 ^ (n - xs[k]?.getD 0).toNat) 1 == 1) = false)
    (HP : (∀ m : Nat, S.testBit m = decide ((m : Int) ∈ xs.take k)) ∧ ∀ j, j < k → specAt n xs j) (hS : S < 128) :
    ∃ S' : Nat, wrap64 ((S : Int) + wrap64 (2 ^ (xs[k]?.getD 0).toNat)) = S' ∧ S' < 128 ∧ (∀ m : Nat, S'.testBit m = decide ((m : Int) ∈ xs.take (k + 1))) ∧ ∀ j, j < k + 1 → specAt n xs j := by
  have hw := inB_true.1 hW
  obtain ⟨x, hx'⟩ : ∃ x : Nat, xs[k]?.getD 0 = x := ⟨(xs[k]?.getD 0).toNat, by omega⟩
  rw [hx'] at hw hb hlt ⊢
  have hx : xs.getD k 0 = x := by rw [List.getD_eq_getElem?_getD, hx']
  have hbit := hb
  rw [bit_test, HP.1] at hbit
  have hS2 : S < 2 ^ x := lt_of_testBit fun m hm => by
    rw [HP.1]
    simp only [decide_eq_false_iff_not]
    intro hmem
    obtain ⟨j, hj, e⟩ := (mem_take_getD (by omega)).1 hmem
    have h1 := spec_mono HP.2 (k - 1) j (by omega) (by omega)
    have h2 := hlt (by omega)
    rw [← List.getD_eq_getElem?_getD] at h2
    omega
  refine ⟨S + 2 ^ x, ?_, ?_, ?_, ?_⟩
  · exact add_shl S x (by omega) (by omega)
  · have : 2 ^ x ≤ 2 ^ 6 := Nat.pow_le_pow_right (by decide) (by omega)
    rw [show (2 : Nat) ^ 6 = 64 from rfl] at this
    omega
  · intro m
    rw [testBit_add_top S x m hS2, HP.1, List.take_succ_eq_append_getElem (by omega : k < xs.length)]
    have e : xs[k] = (x : Int) := by
      rw [← hx', List.getElem?_eq_getElem (by omega)]; rfl
    rw [e, Bool.eq_iff_iff]
    simp only [Bool.or_eq_true, decide_eq_true_eq, List.mem_append, List.mem_singleton]
    exact ⟨fun h => h.elim Or.inl (fun h => Or.inr (by omega)), fun h => h.elim Or.inl (fun h => Or.inr (by omega))⟩
  · intro j hj
    by_cases hjk : j < k
    · exact HP.2 j hjk
    · obtain rfl : j = k := by omega
      refine ⟨by rw [hx]; exact hw, fun h0 => ?_, ?_⟩
      · have := hlt h0
        rw [← List.getD_eq_getElem?_getD] at this
        rw [hx]; exact this
      · rw [hx]
        have e2 : (((n - x).toNat : Nat) : Int) = n - x := by omega
        rw [e2] at hbit
        simpa using hbit
theorem spec_no3 {n : Int} {xs : List Int} {k S l : Nat} (hl : xs.length = l) (hk : k < l) (hW : inB (xs[k]?.getD 0) 1 (n - 1) = true)
    (hb : (bits BinOp.and IntKind.i64 ((S : Int) / 2 ^ (n - xs[k]?.getD 0).toNat) 1 == 1) = true) (HP : ∀ m : Nat, S.testBit m = decide ((m : Int) ∈ xs.take k)) : connB n xs = false := by
  refine conn_no3 hl hk ?_
  have hw := inB_true.1 hW
  rw [bit_test, HP] at hb
  have e2 : (((n - xs[k]?.getD 0).toNat : Nat) : Int) = n - xs[k]?.getD 0 := by omega
  rw [e2] at hb
  simp only [decide_eq_true_eq] at hb
  simp only [containsI, decide_eq_true_eq]
  exact List.mem_of_mem_take hb

end Go.Proofs.YtbkiedhaacapbaaGreat

