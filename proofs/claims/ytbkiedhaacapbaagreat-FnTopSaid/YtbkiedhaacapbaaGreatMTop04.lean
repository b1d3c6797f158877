/- Texts put together: Ren. -/
import Derived.Test.YtbkiedhaacapbaaGreatMTop02
import Derived.Test.YtbkiedhaacapbaaGreatMTop03
import Derived.Deep.RegionHeld3
namespace Go.Proofs.YtbkiedhaacapbaaGreat
open Go.RowKit Go.Sort
set_option maxRecDepth 100000

/-- each number below n once -/
def PermP (n : Nat) (ns : List Int) : Prop := ns.length = n ∧ (∀ x ∈ ns, 0 ≤ x ∧ x < n) ∧ ns.Nodup
def nmN (ns : List Int) (a : Nat) : Nat := (ns.getD a 0).toNat
theorem getD_mem' {ns : List Int} {a : Nat} (h : a < ns.length) : ns.getD a 0 ∈ ns := by
  rw [show ns.getD a 0 = ns[a] by simp [h]]; exact List.getElem_mem h
theorem nm_val {n : Nat} {ns : List Int} (hp : PermP n ns) {a : Nat} (ha : a < n) : ns.getD a 0 = (nmN ns a : Int) ∧ nmN ns a < n := by
  have := hp.2.1 _ (getD_mem' (by rw [hp.1]; exact ha))
  unfold nmN; omega
theorem nm_inj {n : Nat} {ns : List Int} (hp : PermP n ns) {a b : Nat} (ha : a < n) (hb : b < n) (h : nmN ns a = nmN ns b) : a = b := by
  have h1 := (nm_val hp ha).1
  have h2 := (nm_val hp hb).1
  have ha' : a < ns.length := by rw [hp.1]; exact ha
  have hb' : b < ns.length := by rw [hp.1]; exact hb
  have e : ns[a] = ns[b] := by
    have e1 : ns.getD a 0 = ns[a] := by simp [ha']
    have e2 : ns.getD b 0 = ns[b] := by simp [hb']
    rw [← e1, ← e2, h1, h2, h]
  have hpw := List.pairwise_iff_getElem.1 hp.2.2
  rcases Nat.lt_trichotomy a b with h | h | h
  · exact absurd e (hpw a b ha' hb' h)
  · exact h
  · exact absurd e.symm (hpw b a hb' ha' h)
theorem nm_surj {n : Nat} {ns : List Int} (hp : PermP n ns) {i : Nat} (hi : i < n) : ∃ a, a < n ∧ nmN ns a = i := by
  refine Classical.byContradiction fun hc => ?_
  have hno : (i : Int) ∉ ns := fun h => by
    obtain ⟨a, ha, e⟩ := List.mem_iff_getElem.1 h
    refine hc ⟨a, by rw [← hp.1]; exact ha, ?_⟩
    unfold nmN
    rw [show ns.getD a 0 = ns[a] by simp [ha], e]; rfl
  have := nodup_le n ((i : Int) :: ns) (List.nodup_cons.2 ⟨hno, hp.2.2⟩) (fun y hy => by
    rw [List.mem_cons] at hy
    rcases hy with rfl | hy
    · omega
    · exact hp.2.1 y hy)
  rw [List.length_cons, hp.1] at this
  omega
/-- behind the pairs before (a, b) -/
def rnF (xs ns : List Int) (n : Nat) (N : List Int) (a b : Nat) : Prop :=
  N.length = n ∧ (∀ i, i < n → ∃ S : Nat, N.getD i 0 = (S : Int) ∧ S < 2 ^ n) ∧ ∀ p q, p < n → q < n → (N.getD (nmN ns p) 0).toNat.testBit (nmN ns q) = (decide (p < a ∨ (p = a ∧ q < b)) && (winsN xs p).testBit q)
theorem rnF_start {xs ns : List Int} {n : Nat} : rnF xs ns n (List.replicate n 0) 0 0 := by
  have e : ∀ i, (List.replicate n (0 : Int)).getD i 0 = 0 := fun i => by
    by_cases h : i < n
    · simp [h]
    · simp [Nat.le_of_not_lt h]
  refine ⟨by simp, fun i _ => ⟨0, e i, Nat.two_pow_pos n⟩, fun p q _ _ => ?_⟩
  rw [e]; simp
theorem rnF_no {xs ns N : List Int} {n a b : Nat} (h : rnF xs ns n N a b) (hb : (winsN xs a).testBit b = false) : rnF xs ns n N a (b + 1) := by
  refine ⟨h.1, h.2.1, fun p q hp hq => ?_⟩
  rw [h.2.2 p q hp hq]
  by_cases e : p = a ∧ q = b
  · obtain ⟨rfl, rfl⟩ := e; rw [hb]; simp
  · congr 1; rw [decide_eq_decide]; omega
theorem rnF_next {xs ns N : List Int} {n a : Nat} (h : rnF xs ns n N a n) : rnF xs ns n N (a + 1) 0 := by
  refine ⟨h.1, h.2.1, fun p q hp hq => ?_⟩
  rw [h.2.2 p q hp hq]
  congr 1; rw [decide_eq_decide]; omega
theorem rnF_yes {xs ns N : List Int} {n a b S : Nat} (hP : PermP n ns) (_hn : n ≤ 8) (h : rnF xs ns n N a b) (ha : a < n) (hb : b < n) (hS : N.getD (nmN ns a) 0 = (S : Int)) (hbit : (winsN xs a).testBit b = true) :
    S < 2 ^ n ∧ S.testBit (nmN ns b) = false ∧ rnF xs ns n (N.set (nmN ns a) ((S ||| 2 ^ nmN ns b : Nat) : Int)) a (b + 1) := by
  have va := (nm_val hP ha).2
  have vb := (nm_val hP hb).2
  obtain ⟨S', e, hlt⟩ := h.2.1 _ va
  obtain rfl : S = S' := by rw [hS] at e; omega
  refine ⟨hlt, ?_, ?_⟩
  · have := h.2.2 a b ha hb
    rw [hS] at this
    simpa using this
  · refine ⟨by rw [List.length_set]; exact h.1, fun i hi => ?_, fun p q hp hq => ?_⟩
    · by_cases hi2 : i = nmN ns a
      · subst hi2
        rw [getD_set_same _ (by rw [h.1]; exact hi)]
        exact ⟨_, rfl, Nat.or_lt_two_pow hlt (Nat.pow_lt_pow_right (by decide) vb)⟩
      · rw [getD_set_other _ (Ne.symm hi2)]; exact h.2.1 i hi
    · by_cases hpa : p = a
      · subst hpa
        rw [getD_set_same _ (by rw [h.1]; exact va)]
        have h1 := h.2.2 p q hp hq
        rw [hS] at h1
        have e3 : (((S ||| 2 ^ nmN ns b : Nat) : Int)).toNat = S ||| 2 ^ nmN ns b := rfl
        have e4 : ((S : Int)).toNat = S := rfl
        rw [e4] at h1
        rw [e3, Nat.testBit_or, Nat.testBit_two_pow, h1]
        by_cases hqb : q = b
        · subst hqb; rw [hbit]; simp
        · have : decide (nmN ns b = nmN ns q) = false := by
            rw [decide_eq_false_iff_not]; intro e; exact hqb (nm_inj hP hq hb e.symm)
          rw [this, Bool.or_false]
          congr 1; rw [decide_eq_decide]; omega
      · have hne : nmN ns a ≠ nmN ns p := fun e => hpa (nm_inj hP hp ha e.symm)
        rw [getD_set_other _ hne, h.2.2 p q hp hq]
        congr 1; rw [decide_eq_decide]; omega
theorem rnF_unique {xs ns N M : List Int} {n : Nat} (hP : PermP n ns) (h1 : rnF xs ns n N n 0) (h2 : rnF xs ns n M n 0) : N = M :=
  list_ext0 h1.1 h2.1 fun i hi => by
    obtain ⟨S, e1, l1⟩ := h1.2.1 i hi
    obtain ⟨T, e2, l2⟩ := h2.2.1 i hi
    rw [e1, e2]
    congr 1
    refine Nat.eq_of_testBit_eq fun j => ?_
    by_cases hj : j < n
    · obtain ⟨p, hp, rfl⟩ := nm_surj hP hi
      obtain ⟨q, hq, rfl⟩ := nm_surj hP hj
      have a1 := h1.2.2 p q hp hq
      have a2 := h2.2.2 p q hp hq
      rw [e1] at a1
      rw [e2] at a2
      exact a1.trans a2.symm
    · have hle : 2 ^ n ≤ 2 ^ j := Nat.pow_le_pow_right (by decide) (by omega)
      rw [Nat.testBit_lt_two_pow (Nat.lt_of_lt_of_le l1 hle), Nat.testBit_lt_two_pow (Nat.lt_of_lt_of_le l2 hle)]
open Classical in
noncomputable def rnL (xs ns : List Int) : List Int := if h : ∃ N, rnF xs ns xs.length N xs.length 0 then Classical.choose h else []
theorem rnL_eq {xs ns N : List Int} {n : Nat} (hn : xs.length = n) (hP : PermP n ns) (h : rnF xs ns n N n 0) : N = rnL xs ns := by
  subst hn
  have hex : ∃ N, rnF xs ns xs.length N xs.length 0 := ⟨N, h⟩
  unfold rnL
  rw [dif_pos hex]
  exact rnF_unique hP h (Classical.choose_spec hex)
end Go.Proofs.YtbkiedhaacapbaaGreat

