/- Texts put together: KgC, SortI, Cond, DomC, Idx, SovC, TrF. -/
import Derived.Test.YthoodjjjklbggaaDoorMRotational11
import Derived.Test.YthoodjjjklbggaaDoorMRotational01
import Derived.Deep.RegionLaw
import Derived.Test.YthoodjjjklbggaaDoorMRotational04
namespace Go.Proofs.YthoodjjjklbggaaDoor
open Go.RowKit Go.Sort
set_option maxRecDepth 100000
theorem kgS_step (xs : List Int) (k : Nat) : kgS xs (k + 1) = kgS xs k + if kingN xs k = true then 2 ^ k else 0 := rfl
end Go.Proofs.YthoodjjjklbggaaDoor

namespace Go.Proofs.YthoodjjjklbggaaDoor
open Go.RowKit Go.Sort
set_option maxRecDepth 100000

/-- from the right: how far x goes -/
def posR (bef : Int → Int → Bool) (x : Int) (S : List Int) : Nat → Nat
  | 0 => 0
  | k + 1 => if bef x (S.getD k 0) = true then posR bef x S k else k + 1
def insR (bef : Int → Int → Bool) (S : List Int) (x : Int) : List Int := S.take (posR bef x S S.length) ++ x :: S.drop (posR bef x S S.length)
def sortR (bef : Int → Int → Bool) (L : List Int) : List Int := L.foldl (insR bef) []
theorem posR_le (bef : Int → Int → Bool) (x : Int) (S : List Int) (k : Nat) : posR bef x S k ≤ k := by
  induction k with
  | zero => exact Nat.le_refl _
  | succ k ih =>
    simp only [posR]
    split <;> omega
theorem posR_go {bef : Int → Int → Bool} {x : Int} {S : List Int} {k : Nat} (h : bef x (S.getD k 0) = true) : posR bef x S (k + 1) = posR bef x S k := by simp only [posR, h, if_true]
theorem posR_stop {bef : Int → Int → Bool} {x : Int} {S : List Int} {k : Nat} (h : bef x (S.getD k 0) = false) : posR bef x S (k + 1) = k + 1 := by simp only [posR, h]; rfl
theorem insR_len (bef : Int → Int → Bool) (S : List Int) (x : Int) : (insR bef S x).length = S.length + 1 := by
  have := posR_le bef x S S.length
  unfold insR
  simp; omega
theorem sortR_succ (bef : Int → Int → Bool) (L : List Int) {i : Nat} (h : i < L.length) : sortR bef (L.take (i + 1)) = insR bef (sortR bef (L.take i)) (L.getD i 0) := by
  unfold sortR
  rw [List.take_succ_eq_append_getElem h, List.foldl_append, show L.getD i 0 = L[i] by simp [h]]
  rfl
theorem sortR_len (bef : Int → Int → Bool) (L : List Int) {i : Nat} (h : i ≤ L.length) : (sortR bef (L.take i)).length = i := by
  induction i with
  | zero => rfl
  | succ i ih => rw [sortR_succ bef L (by omega), insR_len, ih (by omega)]
/-- the row while x is on its way: it stands at j -/
def midR (S : List Int) (x : Int) (rest : List Int) (j : Nat) : List Int := S.take j ++ x :: S.drop j ++ rest
theorem midR_len (S : List Int) (x : Int) (rest : List Int) (j : Nat) (h : j ≤ S.length) : (midR S x rest j).length = S.length + 1 + rest.length := by
  unfold midR; simp; omega
theorem midR_at (S : List Int) (x : Int) (rest : List Int) (j : Nat) (h : j ≤ S.length) : (midR S x rest j).getD j 0 = x := by
  unfold midR
  have hl : (S.take j).length = j := by rw [List.length_take]; omega
  rw [List.append_assoc, List.getD_eq_getElem?_getD, List.getElem?_append_right (by omega), hl, Nat.sub_self]
  rfl
theorem midR_prev (S : List Int) (x : Int) (rest : List Int) (j : Nat) (h : j + 1 ≤ S.length) : (midR S x rest (j + 1)).getD j 0 = S.getD j 0 := by
  unfold midR
  have hl : (S.take (j + 1)).length = j + 1 := by rw [List.length_take]; omega
  rw [List.append_assoc, List.getD_eq_getElem?_getD, List.getElem?_append_left (by omega), List.getElem?_take, if_pos (by omega), ← List.getD_eq_getElem?_getD]
theorem midR_swap (S : List Int) (x : Int) (rest : List Int) (j : Nat) (h : j + 1 ≤ S.length) : ((midR S x rest (j + 1)).set (j + 1) (S.getD j 0)).set j x = midR S x rest j := by
  have e1 : S.take (j + 1) = S.take j ++ [S.getD j 0] := by
    rw [List.take_succ_eq_append_getElem (by omega), show S.getD j 0 = S[j] by simp [show j < S.length by omega]]
  have e2 : S.drop j = S.getD j 0 :: S.drop (j + 1) := by
    rw [List.drop_eq_getElem_cons (by omega : j < S.length), show S.getD j 0 = S[j] by simp [show j < S.length by omega]]
  have hlj : (S.take j).length = j := by rw [List.length_take]; omega
  unfold midR
  rw [e1, e2]
  generalize S.getD j 0 = y
  generalize S.take j = P at *
  simp only [List.append_assoc, List.cons_append, List.nil_append]
  rw [List.set_append_right _ _ (by omega), hlj, show j + 1 - j = 1 by omega, List.set_cons_succ, List.set_cons_zero, List.set_append_right _ _ (by omega), hlj, Nat.sub_self, List.set_cons_zero]
theorem midR_start (S : List Int) (x : Int) (rest : List Int) : midR S x rest S.length = S ++ x :: rest := by
  unfold midR; simp
theorem midR_end (bef : Int → Int → Bool) (S : List Int) (x : Int) (rest : List Int) (j : Nat) (h : posR bef x S S.length = j) : midR S x rest j = insR bef S x ++ rest := by
  unfold midR insR; rw [h]
theorem mem_insR {bef : Int → Int → Bool} {S : List Int} {x y : Int} (h : y ∈ insR bef S x) : y = x ∨ y ∈ S := by
  unfold insR at h
  rw [List.mem_append, List.mem_cons] at h
  rcases h with h | h | h
  · exact .inr (List.mem_of_mem_take h)
  · exact .inl h
  · exact .inr (List.mem_of_mem_drop h)
theorem mem_sortR {bef : Int → Int → Bool} {L : List Int} {y : Int} {i : Nat} (hi : i ≤ L.length) (h : y ∈ sortR bef (L.take i)) : y ∈ L := by
  induction i with
  | zero => simp [sortR] at h
  | succ i ih =>
    rw [sortR_succ bef L (by omega)] at h
    rcases mem_insR h with rfl | h
    · rw [show L.getD i 0 = L[i] by simp [show i < L.length by omega]]; exact List.getElem_mem _
    · exact ih (by omega) h
theorem drop_eq' {L : List Int} {k : Nat} (h : k < L.length) : L.drop k = L.getD k 0 :: L.drop (k + 1) := by
  rw [List.drop_eq_getElem_cons h, show L.getD k 0 = L[k] by simp [h]]
theorem getD_memI {L : List Int} {i : Nat} (h : i < L.length) : L.getD i 0 ∈ L := by
  rw [show L.getD i 0 = L[i] by simp [h]]; exact List.getElem_mem h
theorem sortR_one (bef : Int → Int → Bool) (L : List Int) (h : 1 ≤ L.length) : sortR bef (L.take 1) ++ L.drop 1 = L := by
  cases L with
  | nil => simp at h
  | cons x L => simp [sortR, insR, posR]
end Go.Proofs.YthoodjjjklbggaaDoor

namespace Go.Proofs.YthoodjjjklbggaaDoor
open Go.RowKit Go.Sort
set_option maxRecDepth 100000
def clo (xs : List Int) (S : Nat) : Prop := ∀ b c, S.testBit b = true → (winsN xs b).testBit c = true → S.testBit c = true
theorem it_sup (xs : List Int) (n : Nat) : ∀ f S c, S.testBit c = true → (itN xs n f S).testBit c = true := by
  intro f
  induction f with
  | zero => intro S c h; exact h
  | succ f ih =>
    intro S c h
    rw [itN]
    split
    · exact h
    · exact ih _ _ (by rw [testBit_orK, h]; rfl)
theorem it_sub {xs : List Int} {n T : Nat} (hT : clo xs T) : ∀ f S, (∀ c, S.testBit c = true → T.testBit c = true) → ∀ c, (itN xs n f S).testBit c = true → T.testBit c = true := by
  intro f
  induction f with
  | zero => intro S h c hc; exact h c hc
  | succ f ih =>
    intro S h c hc
    rw [itN] at hc
    split at hc
    · exact h c hc
    · refine ih _ (fun d hd => ?_) c hc
      rw [testBit_orK, Bool.or_eq_true, List.any_eq_true] at hd
      rcases hd with hd | ⟨b, hb, hbd⟩
      · exact h d hd
      · exact hT b d (h b (mem_memN.1 hb).2) hbd
theorem it_fix {xs : List Int} {n : Nat} (hn : n ≤ 8) (hw : ∀ b, b < n → winsN xs b < 2 ^ n) : ∀ f S, S < 2 ^ n → 256 ≤ f + S → itN xs n f S < 2 ^ n ∧ orK xs (memN (itN xs n f S) n) (itN xs n f S) = itN xs n f S := by
  have hp := pow_le hn
  intro f
  induction f with
  | zero => intro S hS h; omega
  | succ f ih =>
    intro S hS h
    rw [itN]
    split
    · rename_i he; exact ⟨hS, he⟩
    · rename_i he
      have h1 := orK_ge xs (memN S n) S
      exact ih _ (orK_ltn hw (fun b hb => (mem_memN.1 hb).1) hS) (by omega)
theorem reach_facts {s : Int} {xs : List Int} (hp : tourP s xs) {a : Nat} (ha : a < xs.length) :
    (reachN xs a).testBit a = true ∧ clo xs (reachN xs a) ∧ (∀ T, clo xs T → T.testBit a = true → ∀ c, (reachN xs a).testBit c = true → T.testBit c = true) ∧ reachN xs a < 2 ^ xs.length := by
  have hn : xs.length ≤ 8 := by have := hp.1; have := hp.2.1; omega
  have hw : ∀ b, b < xs.length → winsN xs b < 2 ^ xs.length := fun b hb => by
    have := (tour_wins hp hb).2.1
    rwa [show s.toNat = xs.length by have := hp.2.1; omega] at this
  have h2 : 2 ^ a < 2 ^ xs.length := Nat.pow_lt_pow_right (by decide) ha
  have h34 : reachN xs a < 2 ^ xs.length ∧ orK xs (memN (reachN xs a) xs.length) (reachN xs a) = reachN xs a := it_fix hn hw 256 (2 ^ a) h2 (Nat.le_add_right _ _)
  obtain ⟨h3, h4⟩ := h34
  refine ⟨it_sup xs xs.length 256 (2 ^ a) a (by simp), fun b c hb hc => ?_, fun T hT hTa c hc => it_sub hT 256 (2 ^ a) (fun d hd => ?_) c hc, h3⟩
  · have hbn : b < xs.length := by
      rcases Nat.lt_or_ge b xs.length with h | h
      · exact h
      · rw [Nat.testBit_lt_two_pow (Nat.lt_of_lt_of_le h3 (Nat.pow_le_pow_right (by decide) h))] at hb; cases hb
    have : (orK xs (memN (reachN xs a) xs.length) (reachN xs a)).testBit c = true := by
      rw [testBit_orK, Bool.or_eq_true, List.any_eq_true]
      exact .inr ⟨b, mem_memN.2 ⟨hbn, hb⟩, hc⟩
    rwa [h4] at this
  · rw [Nat.testBit_two_pow] at hd
    have : a = d := by simpa using hd
    subst this; exact hTa
theorem sub_eq {A B : Nat} (h1 : ∀ c, A.testBit c = true → B.testBit c = true) (h2 : ∀ c, B.testBit c = true → A.testBit c = true) : A = B :=
  Nat.eq_of_testBit_eq fun c => by rw [Bool.eq_iff_iff]; exact ⟨h1 c, h2 c⟩
theorem bit_lt {S n c : Nat} (hS : S < 2 ^ n) (h : S.testBit c = true) : c < n := by
  rcases Nat.lt_or_ge c n with h1 | h1
  · exact h1
  · rw [Nat.testBit_lt_two_pow (Nat.lt_of_lt_of_le hS (Nat.pow_le_pow_right (by decide) h1))] at h; cases h
def scK (xs : List Int) (a : Nat) : Nat := popN 8 (winsN xs a)
/-- who beats all of another one's reach has the greater score -/
theorem score_up {s : Int} {xs : List Int} (hp : tourP s xs) {a d : Nat} (ha : a < xs.length) (hd : d < xs.length) (h : ∀ e, (reachN xs a).testBit e = true → (winsN xs d).testBit e = true) : scK xs a < scK xs d := by
  have hn : xs.length ≤ 8 := by have := hp.1; have := hp.2.1; omega
  obtain ⟨h1, h2, -, h4⟩ := reach_facts hp ha
  unfold scK
  rw [pop_mem (tour_wins hp ha).2.2, pop_mem (tour_wins hp hd).2.2]
  have h5 := card_less (S := reachN xs a) (n := 8) (b := a) (mem_memN.2 ⟨by omega, h1⟩)
  have h6 := card_mono (S := winsN xs a) (T := less (reachN xs a) (2 ^ a)) (n := 8) (fun j hj => by
    rw [testBit_less, h2 a j h1 hj, Nat.testBit_two_pow]
    by_cases e : a = j
    · subst e; rw [beat_self hp ha] at hj; cases hj
    · simp [e])
  have h7 := card_mono (S := reachN xs a) (T := winsN xs d) (n := 8) h
  omega
/-- who is not reached beats all that are -/
theorem beats_reach {s : Int} {xs : List Int} (hp : tourP s xs) {a d : Nat} (ha : a < xs.length) (hd : d < xs.length) (h : (reachN xs a).testBit d = false) : ∀ e, (reachN xs a).testBit e = true → (winsN xs d).testBit e = true := by
  intro e he
  obtain ⟨-, h2, -, h4⟩ := reach_facts hp ha
  have hen := bit_lt h4 he
  have hne : d ≠ e := by intro e'; subst e'; rw [he] at h; cases h
  rw [beat_one hp hd hen hne]
  rcases q : (winsN xs e).testBit d with _ | _
  · rfl
  · rw [h2 e d he q] at h; cases h
def topF (xs : List Int) (n S : Nat) : Nat := setOf (fun a => S.testBit a && reachN xs a == S) n
theorem testBit_topF (xs : List Int) (n S c : Nat) : (topF xs n S).testBit c = (decide (c < n) && (S.testBit c && reachN xs c == S)) := testBit_setOf _ _ _
def partsF (xs : List Int) (n : Nat) : Nat → Nat → List Nat
  | 0, _ => []
  | f + 1, S => if S = 0 then [] else topF xs n S :: partsF xs n f (less S (topF xs n S))
theorem top_some {s : Int} {xs : List Int} (hp : tourP s xs) {S : Nat} (hS : S < 2 ^ xs.length) (hc : clo xs S) : ∀ k a, S.testBit a = true → 8 - scK xs a ≤ k → ∃ b, S.testBit b = true ∧ reachN xs b = S := by
  intro k
  induction k with
  | zero =>
    intro a ha hk
    have han := bit_lt hS ha
    obtain ⟨-, -, h3, h4⟩ := reach_facts hp han
    refine ⟨a, ha, sub_eq (h3 S hc ha) fun d hd => ?_⟩
    rcases q : (reachN xs a).testBit d with _ | _
    · have h5 := score_up hp han (bit_lt hS hd) (beats_reach hp han (bit_lt hS hd) q)
      have h6 : scK xs d ≤ 8 := by unfold scK; rw [pop_mem (tour_wins hp (bit_lt hS hd)).2.2]; exact memN_len _ _
      omega
    · rfl
  | succ k ih =>
    intro a ha hk
    have han := bit_lt hS ha
    obtain ⟨-, -, h3, h4⟩ := reach_facts hp han
    by_cases he : reachN xs a = S
    · exact ⟨a, ha, he⟩
    · have : ∃ d, S.testBit d = true ∧ (reachN xs a).testBit d = false := by
        apply Classical.byContradiction
        intro hno
        refine he (sub_eq (h3 S hc ha) fun d hd => ?_)
        rcases q : (reachN xs a).testBit d with _ | _
        · exact absurd ⟨d, hd, q⟩ hno
        · rfl
      obtain ⟨d, hd, hq⟩ := this
      have h5 := score_up hp han (bit_lt hS hd) (beats_reach hp han (bit_lt hS hd) hq)
      have h6 : scK xs d ≤ 8 := by unfold scK; rw [pop_mem (tour_wins hp (bit_lt hS hd)).2.2]; exact memN_len _ _
      exact ih d hd (by omega)
theorem add_disj {A B : Nat} (hA : A < 2 ^ 62) (hB : B < 2 ^ 62) (h : A &&& B = 0) : A + B = A ||| B := by
  have h1 : A < 2 ^ 64 := Nat.lt_trans hA (by decide)
  have h2 : B < 2 ^ 64 := Nat.lt_trans hB (by decide)
  have hb : (BitVec.ofNat 64 A) &&& (BitVec.ofNat 64 B) = 0#64 := by
    apply BitVec.eq_of_toNat_eq
    rw [BitVec.toNat_and, BitVec.toNat_ofNat, BitVec.toNat_ofNat, Nat.mod_eq_of_lt h1, Nat.mod_eq_of_lt h2, h]
    rfl
  have e1 : (2 : Nat) ^ 62 = 4611686018427387904 := by decide
  have e3 : (2 : Nat) ^ 64 = 18446744073709551616 := by decide
  have hlt : A + B < 2 ^ 64 := by omega
  have h3 := congrArg BitVec.toNat (BitVec.add_eq_or_of_and_eq_zero _ _ hb)
  rw [BitVec.toNat_add, BitVec.toNat_or, BitVec.toNat_ofNat, BitVec.toNat_ofNat, Nat.mod_eq_of_lt h1, Nat.mod_eq_of_lt h2, Nat.mod_eq_of_lt hlt] at h3
  exact h3
theorem less_sub {S T : Nat} (hS : S < 256) (hT : T < 256) (h : ∀ c, T.testBit c = true → S.testBit c = true) : less S T + T = S := by
  have h1 : less S T &&& T = 0 := Nat.eq_of_testBit_eq fun c => by
    rw [Nat.testBit_and, testBit_less, Nat.zero_testBit]
    cases S.testBit c <;> cases T.testBit c <;> rfl
  have h2 : less S T ||| T = S := Nat.eq_of_testBit_eq fun c => by
    rw [Nat.testBit_or, testBit_less]
    rcases q : T.testBit c with _ | _
    · simp
    · rw [h c q]; simp
  have h3 : less S T < 2 ^ 8 := less_lt hS
  have e : (256 : Nat) < 2 ^ 62 := by decide
  rw [add_disj (by omega) (by omega) h1, h2]
theorem top_sub (xs : List Int) (n S : Nat) : ∀ c, (topF xs n S).testBit c = true → S.testBit c = true := fun c h => by
  rw [testBit_topF] at h
  simp at h
  exact h.2.1
theorem rest_lt {s : Int} {xs : List Int} (hp : tourP s xs) {S : Nat} (hS : S < 2 ^ xs.length) (hc : clo xs S) (h0 : S ≠ 0) : less S (topF xs xs.length S) < S := by
  have hn : xs.length ≤ 8 := by have := hp.1; have := hp.2.1; omega
  have hp8 := pow_le hn
  have hT : topF xs xs.length S < 256 := setOf_small _ hn
  have h1 := less_sub (by omega) hT (top_sub xs xs.length S)
  obtain ⟨a, ha⟩ := Nat.exists_testBit_of_ne_zero h0
  obtain ⟨b, hb, hr⟩ := top_some hp hS hc 8 a ha (by omega)
  have h2 : (topF xs xs.length S).testBit b = true := by rw [testBit_topF]; simp [bit_lt hS hb, hb, hr]
  have h3 : topF xs xs.length S ≠ 0 := by intro e; rw [e] at h2; simp at h2
  omega
theorem rest_clo {s : Int} {xs : List Int} (hp : tourP s xs) {S : Nat} (hS : S < 2 ^ xs.length) (hc : clo xs S) : clo xs (less S (topF xs xs.length S)) := by
  intro b c hb hbc
  rw [testBit_less, Bool.and_eq_true] at hb
  have hbn := bit_lt hS hb.1
  have hcS := hc b c hb.1 hbc
  have hcn := bit_lt hS hcS
  obtain ⟨b1, b2, b3, -⟩ := reach_facts hp hbn
  obtain ⟨c1, c2, c3, -⟩ := reach_facts hp hcn
  rw [testBit_less, hcS, Bool.true_and]
  rcases q : (topF xs xs.length S).testBit c with _ | _
  · rfl
  · rw [testBit_topF] at q
    have hrc : reachN xs c = S := by simp at q; exact q.2.2
    have hrb : reachN xs b = S := sub_eq (b3 S hc hb.1) fun d hd => by
      rw [← hrc] at hd
      exact c3 _ b2 (b2 b c b1 hbc) d hd
    have : (topF xs xs.length S).testBit b = true := by rw [testBit_topF]; simp [hbn, hb.1, hrb]
    rw [this] at hb
    simp at hb
theorem parts_fuel {s : Int} {xs : List Int} (hp : tourP s xs) : ∀ f g S, S < f → S < g → S < 2 ^ xs.length → clo xs S → partsF xs xs.length f S = partsF xs xs.length g S := by
  intro f
  induction f with
  | zero => intro g S h; omega
  | succ f ih =>
    intro g S hf hg hS hc
    obtain ⟨g, rfl⟩ : ∃ k, g = k + 1 := ⟨g - 1, by omega⟩
    rw [partsF, partsF]
    split
    · rfl
    · rename_i h0
      have h1 := rest_lt hp hS hc h0
      rw [ih g _ (by omega) (by omega) (by omega) (rest_clo hp hS hc)]
def partsN (xs : List Int) (S : Nat) : List Nat := partsF xs xs.length (S + 1) S
theorem partsN_zero (xs : List Int) : partsN xs 0 = [] := by simp [partsN, partsF]
theorem partsN_step {s : Int} {xs : List Int} (hp : tourP s xs) {S : Nat} (hS : S < 2 ^ xs.length) (hc : clo xs S) (h0 : S ≠ 0) : partsN xs S = topF xs xs.length S :: partsN xs (less S (topF xs xs.length S)) := by
  have h1 := rest_lt hp hS hc h0
  unfold partsN
  rw [partsF, if_neg h0, parts_fuel hp S (less S (topF xs xs.length S) + 1) _ (by omega) (by omega) (by omega) (rest_clo hp hS hc)]
/-- one more part, from the back -/
theorem part_more {s : Int} {xs : List Int} (hp : tourP s xs) {K x : Nat} (hK : K < 2 ^ xs.length) (hc : clo xs K) (hx : x < xs.length) (hn : K.testBit x = false) (hlow : ∀ y, y < xs.length → scK xs y < scK xs x → K.testBit y = true) :
    less (reachN xs x) K = topF xs xs.length (reachN xs x) ∧ K ||| reachN xs x = reachN xs x ∧ less (reachN xs x) (topF xs xs.length (reachN xs x)) = K := by
  obtain ⟨x1, x2, x3, x4⟩ := reach_facts hp hx
  have hA : ∀ c, K.testBit c = true → (reachN xs x).testBit c = true := fun c h => by
    have hcn := bit_lt hK h
    have hne : x ≠ c := by intro e; subst e; rw [h] at hn; cases hn
    refine x2 x c x1 ?_
    rw [beat_one hp hx hcn hne]
    rcases q : (winsN xs c).testBit x with _ | _
    · rfl
    · rw [hc c x h q] at hn; cases hn
  have hB : ∀ c, (reachN xs x).testBit c = true → (K.testBit c = true ↔ ¬ reachN xs c = reachN xs x) := fun c h => by
    have hcn := bit_lt x4 h
    obtain ⟨c1, c2, c3, -⟩ := reach_facts hp hcn
    constructor
    · intro hk e
      have := c3 K hc hk x (by rw [e]; exact x1)
      rw [this] at hn; cases hn
    · intro hne
      refine hlow c hcn (score_up hp hcn hx (beats_reach hp hcn hx ?_))
      rcases q : (reachN xs c).testBit x with _ | _
      · rfl
      · exact absurd (sub_eq (c3 _ x2 h) (x3 _ c2 q)) hne
  refine ⟨Nat.eq_of_testBit_eq fun c => ?_, Nat.eq_of_testBit_eq fun c => ?_, Nat.eq_of_testBit_eq fun c => ?_⟩
  · rw [testBit_less, testBit_topF]
    rcases q : (reachN xs x).testBit c with _ | _
    · simp
    · have h1 := hB c q
      have h2 := bit_lt x4 q
      rcases k : K.testBit c with _ | _
      · rw [k] at h1
        have : reachN xs c = reachN xs x := Classical.byContradiction fun hne => by have := h1.2 hne; cases this
        simp [h2, this]
      · rw [k] at h1
        have := h1.1 rfl
        simp [this]
  · rw [Nat.testBit_or]
    rcases k : K.testBit c with _ | _
    · rfl
    · rw [hA c k]; rfl
  · rw [testBit_less, testBit_topF]
    rcases q : (reachN xs x).testBit c with _ | _
    · rcases k : K.testBit c with _ | _
      · rfl
      · rw [hA c k] at q; cases q
    · have h1 := hB c q
      have h2 := bit_lt x4 q
      rcases k : K.testBit c with _ | _
      · rw [k] at h1
        have : reachN xs c = reachN xs x := Classical.byContradiction fun hne => by have := h1.2 hne; cases this
        simp [h2, this]
      · rw [k] at h1
        have := h1.1 rfl
        simp [this]
theorem or_clo {xs : List Int} {A B : Nat} (hA : clo xs A) (hB : clo xs B) : clo xs (A ||| B) := fun b c hb hc => by
  rw [Nat.testBit_or, Bool.or_eq_true] at hb ⊢
  rcases hb with hb | hb
  · exact .inl (hA b c hb hc)
  · exact .inr (hB b c hb hc)
end Go.Proofs.YthoodjjjklbggaaDoor

namespace Go.Proofs.YthoodjjjklbggaaDoor
open Go.RowKit Go.Sort
set_option maxRecDepth 100000
/-- everybody outside of the set is beaten by somebody in it -/
def domN (xs : List Int) (S : Nat) : Bool := orK xs (memN S 8) S == 2 ^ xs.length - 1
/-! the least dominating set -/
def ldStep (xs : List Int) (best S : Nat) : Nat := if popN 8 S < popN 8 best ∧ domN xs S = true then S else best
def ldK (xs : List Int) (n : Nat) : Nat → Nat
  | 0 => 2 ^ n - 1
  | k + 1 => ldStep xs (ldK xs n k) (k + 1)
theorem ldK_lt (xs : List Int) (n : Nat) : ∀ k, k < 2 ^ n → ldK xs n k < 2 ^ n := by
  intro k
  induction k with
  | zero => intro _; have := Nat.one_le_two_pow (n := n); simp only [ldK]; omega
  | succ k ih =>
    intro hk
    have := ih (by omega)
    simp only [ldK, ldStep]
    split <;> omega
end Go.Proofs.YthoodjjjklbggaaDoor

namespace Go.Proofs.YthoodjjjklbggaaDoor
open Go.RowKit Go.Sort
set_option maxRecDepth 100000

def idxL (n : Nat) : List Int := (List.range n).map fun (a : Nat) => (a : Int)
theorem idxL_len (n : Nat) : (idxL n).length = n := by simp [idxL]
theorem idxL_at {n a : Nat} (h : a < n) : (idxL n).getD a 0 = a := by simp [idxL, h]
theorem idxL_mem {n : Nat} {x : Int} (h : x ∈ idxL n) : ∃ a : Nat, a < n ∧ x = a := by
  unfold idxL at h
  rw [List.mem_map] at h
  obtain ⟨a, ha, e⟩ := h
  exact ⟨a, List.mem_range.1 ha, e.symm⟩
set_option maxHeartbeats 2000000 in
theorem indices_any (n : Nat) (hn : n ≤ 1000) (w : World) (h1 : 1 ≤ n) :
    Calls Tryd.prog 48 #[.int .i64 n] w fun e w' => e = .returned (.slice (some ⟨w.heap.size, 0, none⟩) n n) ∧ Own w' w.heap.size (.slice (some ⟨w.heap.size, 0, none⟩) n n) (idxL n) ∧ Below w.heap.size w w' := by
  obtain ⟨i0, hi, hz0, hz1, hz2⟩ := info_parts i64_info
  go_enter Tryd.func48, Tryd.ntmps48
  go_wp2_with (at_make; refine wpList_make_full _ rfl _ _ 23 rfl w.heap.size 3 i0 (.int .i64 0) 1 Tryd.underlying23 hi hz0 hz1 _ _ _ _ n rfl rfl rfl rfl (by rw [hz2]; omega) (by unfold maxLen; omega) (Nat.le_refl _) ?_; intro w1 hown hg1; have HB1 := Lib.hid ((Below.refl w.heap.size w).grown hg1 (Nat.le_refl _) (by simp)); have HOWN := Lib.hid hown; clear hown hg1)
  have HO1 : Hid (Own w1 w.heap.size (.slice (some ⟨w.heap.size, 0, none⟩) n n) (List.replicate n 0)) := by
    have ho := HOWN.out
    rw [ints_made'] at ho
    unfold Hid Own
    rw [List.length_replicate]
    exact ho
  clear HOWN
  go_loopw [9] (fun i wr => ∃ (k : Nat) (N : List Int), k ≤ n ∧ i = .int .i64 k ∧ N.length = n ∧ Own wr w.heap.size (.slice (some ⟨w.heap.size, 0, none⟩) n n) N ∧ Hid (∀ i, i < k → N.getD i 0 = (i : Int)) ∧ Below w.heap.size w wr) (fun i _ => n - (intOf i).toNat)
  case atStart => exact ⟨0, _, by omega, rfl, by simp, HO1.out, fun i hi => absurd hi (by omega), HB1.out⟩
  case round =>
    obtain ⟨k, N, hk, rfl, hNl, ho, HP, hb⟩ := hrel
    have HO := Lib.hid ho
    have HB := Lib.hid hb
    clear ho hb
    by_cases hlt : k < n
    · obtain ⟨hx, hf⟩ := HO.out.at1 hNl (by omega)
      have zk := hx k hlt
      have fk := hf k
      have HO3 := Lib.hid (HO.out.set_ hNl k (k : Int)).1
      have HB3 := Lib.hid (HB.out.setCell (p := ⟨w.heap.size, k, none⟩) (Nat.le_refl _) (.int .i64 k))
      clear hx hf
      go_wp2
      go_roundw
      case rel =>
        refine ⟨k + 1, N.set k k, by omega, by go_num, by simp [hNl], HO3.out, fun i hi => ?_, HB3.out⟩
        by_cases hik : i = k
        · subst hik; rw [getD_set_same _ (by omega)]
        · rw [getD_set_other _ (Ne.symm hik)]; exact HP.out i (by omega)
      case measure => simp [intOf]; omega
    · obtain rfl : n = k := by omega
      have HE : Hid (N = idxL n) := list_ext0 hNl (idxL_len n) fun i hi => by rw [HP.out i hi, idxL_at hi]
      go_wp2
      go_ret
      exact ⟨rfl, by rw [← HE.out]; exact HO.out, HB.out⟩
end Go.Proofs.YthoodjjjklbggaaDoor

namespace Go.Proofs.YthoodjjjklbggaaDoor
open Go.RowKit Go.Sort
set_option maxRecDepth 100000
def svB (xs : List Int) (n : Nat) (x : Int) : Bool := decide (scN xs x.toNat = (n : Int) - 1)
def svI (xs : List Int) (n : Nat) : Int := findI (svB xs n) (idxL n)
/-- the sovereign's number, or -1 -/
theorem svI_facts {n : Nat} {xs : List Int} (hp : tourP n xs) : (∃ a : Nat, svI xs n = a ∧ svP xs n a) ∨ (svI xs n = -1 ∧ ∀ a, ¬ svP xs n a) := by
  unfold svI findI
  rcases h : (idxL n).findIdx? (svB xs n) with _ | k
  · right
    refine ⟨rfl, fun a ha => ?_⟩
    rw [List.findIdx?_eq_none_iff] at h
    have h1 := h (a : Int) (by unfold idxL; exact List.mem_map.2 ⟨a, by simpa using ha.1, rfl⟩)
    unfold svB at h1
    rw [decide_eq_false_iff_not, Int.toNat_natCast] at h1
    exact h1 ((sv_score hp ha.1).2 ha)
  · left
    rw [List.findIdx?_eq_some_iff_getElem] at h
    obtain ⟨hk, h1, -⟩ := h
    rw [idxL_len] at hk
    have e : (idxL n)[k]'(by rw [idxL_len]; exact hk) = (k : Int) := by unfold idxL; simp
    rw [e] at h1
    unfold svB at h1
    rw [decide_eq_true_eq, Int.toNat_natCast] at h1
    exact ⟨k, rfl, (sv_score hp hk).1 h1⟩
end Go.Proofs.YthoodjjjklbggaaDoor

namespace Go.Proofs.YthoodjjjklbggaaDoor
open Go.RowKit Go.Sort
set_option maxRecDepth 100000
def cardN (S n : Nat) : Nat := (memN S n).length
theorem cardN_succ (S n : Nat) : cardN S (n + 1) = cardN S n + if S.testBit n = true then 1 else 0 := by
  unfold cardN
  rw [memN_succ, List.length_append]
  split <;> simp
theorem card_split {S T : Nat} (h : ∀ c, T.testBit c = true → S.testBit c = true) (n : Nat) : cardN (less S T) n + cardN T n = cardN S n := by
  induction n with
  | zero => simp [cardN, memN]
  | succ n ih =>
    rw [cardN_succ, cardN_succ, cardN_succ, testBit_less]
    have := h n
    cases h1 : S.testBit n <;> cases h2 : T.testBit n <;> simp_all <;> omega
theorem card_pos {S n c : Nat} (hc : c < n) (h : S.testBit c = true) : 1 ≤ cardN S n := List.length_pos_of_mem (mem_memN.2 ⟨hc, h⟩)
theorem card_two {S n c d : Nat} (hc : c < n) (hd : d < n) (h1 : S.testBit c = true) (h2 : S.testBit d = true) (h : c ≠ d) : 2 ≤ cardN S n := by
  have h3 : d ∈ (memN S n).erase c := (List.mem_erase_of_ne (Ne.symm h)).2 (mem_memN.2 ⟨hd, h2⟩)
  have e := List.length_erase_of_mem (mem_memN.2 ⟨hc, h1⟩ : c ∈ memN S n)
  have := List.length_pos_of_mem h3
  unfold cardN; omega
theorem card_uniq {S n : Nat} (h : ∀ c d, c < n → d < n → S.testBit c = true → S.testBit d = true → c = d) : cardN S n ≤ 1 := by
  unfold cardN
  rcases q : memN S n with _ | ⟨a, _ | ⟨b, l⟩⟩
  · simp
  · simp
  · exfalso
    have ha := mem_memN.1 (show a ∈ memN S n by rw [q]; simp)
    have hb := mem_memN.1 (show b ∈ memN S n by rw [q]; simp)
    have := h a b ha.1 hb.1 ha.2 hb.2
    subst this
    have hn := memN_nodup S n
    rw [q] at hn
    simp at hn
theorem card_full (n : Nat) : cardN (2 ^ n - 1) n = n := by
  unfold cardN memN
  rw [List.filter_eq_self.2 fun a ha => by rw [testBit_full]; simpa using ha]
  simp
section
variable {n : Nat} {xs : List Int}
theorem top_ex (hp : tourP n xs) {S : Nat} (hS : S < 2 ^ n) (hc : clo xs S) (h0 : S ≠ 0) : ∃ b, b < n ∧ (topF xs n S).testBit b = true := by
  have hl := tour_len hp
  obtain ⟨a, ha⟩ := Nat.exists_testBit_of_ne_zero h0
  obtain ⟨b, hb, e⟩ := top_some hp (by rw [hl]; exact hS) hc _ a ha (Nat.le_refl _)
  have hbn := bit_lt hS hb
  exact ⟨b, hbn, by rw [testBit_topF]; simp [hbn, hb, e]⟩
theorem rest_n (hp : tourP n xs) {S : Nat} (hS : S < 2 ^ n) (hc : clo xs S) (h0 : S ≠ 0) : less S (topF xs n S) < S ∧ clo xs (less S (topF xs n S)) := by
  have hl := tour_len hp
  have h1 := rest_lt hp (by rw [hl]; exact hS) hc h0
  have h2 := rest_clo hp (by rw [hl]; exact hS) hc
  rw [hl] at h1 h2
  exact ⟨h1, h2⟩
theorem parts_step (hp : tourP n xs) {S : Nat} (hS : S < 2 ^ n) (hc : clo xs S) (h0 : S ≠ 0) : partsN xs S = topF xs n S :: partsN xs (less S (topF xs n S)) := by
  have := partsN_step hp (by rw [tour_len hp]; exact hS) hc h0
  rwa [tour_len hp] at this
theorem parts_card (hp : tourP n xs) : ∀ B S, S < B → S < 2 ^ n → clo xs S → (partsN xs S).length ≤ cardN S n ∧ ((partsN xs S).length = cardN S n → ∀ P ∈ partsN xs S, cardN P n = 1) := by
  intro B
  induction B with
  | zero => intro S h; omega
  | succ B ih =>
    intro S hB hS hc
    by_cases h0 : S = 0
    · subst h0; rw [partsN_zero]; simp
    · obtain ⟨h1, h2⟩ := rest_n hp hS hc h0
      obtain ⟨h3, h4⟩ := ih (less S (topF xs n S)) (by omega) (by omega) h2
      have h5 := card_split (top_sub xs n S) n
      obtain ⟨b, hb, hbt⟩ := top_ex hp hS hc h0
      have h6 := card_pos hb hbt
      rw [parts_step hp hS hc h0, List.length_cons]
      refine ⟨by omega, fun e P hP => ?_⟩
      rcases List.mem_cons.1 hP with rfl | hP
      · omega
      · exact h4 (by omega) P hP
/-- who is in the set is in a part, with all who reach the same -/
theorem parts_mem (hp : tourP n xs) : ∀ B S, S < B → S < 2 ^ n → clo xs S → ∀ c, S.testBit c = true → ∃ P ∈ partsN xs S, P.testBit c = true ∧ ∀ d, d < n → reachN xs d = reachN xs c → P.testBit d = true := by
  intro B
  induction B with
  | zero => intro S h; omega
  | succ B ih =>
    intro S hB hS hc c hcS
    have h0 : S ≠ 0 := fun e => by subst e; simp at hcS
    obtain ⟨h1, h2⟩ := rest_n hp hS hc h0
    rw [parts_step hp hS hc h0]
    by_cases ht : (topF xs n S).testBit c = true
    · refine ⟨_, by simp, ht, fun d hd e => ?_⟩
      rw [testBit_topF] at ht ⊢
      simp only [Bool.and_eq_true, decide_eq_true_eq, beq_iff_eq] at ht ⊢
      have hdd := (reach_facts hp (by rw [tour_len hp]; exact hd) (a := d)).1
      rw [e, ht.2.2] at hdd
      exact ⟨hd, hdd, by rw [e]; exact ht.2.2⟩
    · have hr : (less S (topF xs n S)).testBit c = true := by
        rw [testBit_less, hcS]
        simp only [Bool.not_eq_true] at ht
        rw [ht]; rfl
      obtain ⟨P, hP, h3⟩ := ih (less S (topF xs n S)) (by omega) (by omega) h2 c hr
      exact ⟨P, List.mem_cons_of_mem _ hP, h3⟩
def transP (xs : List Int) (n : Nat) : Prop := ∀ a b c, a < n → b < n → c < n → bt xs a b = true → bt xs b c = true → bt xs a c = true
theorem trans_reach (hp : tourP n xs) (ht : transP xs n) {a c : Nat} (ha : a < n) (h : (reachN xs a).testBit c = true) : c = a ∨ bt xs a c = true := by
  have hl := tour_len hp
  have hT : clo xs (winsN xs a ||| 2 ^ a) := fun b d hb hd => by
    rw [Nat.testBit_or, Nat.testBit_two_pow] at hb ⊢
    simp only [Bool.or_eq_true, decide_eq_true_eq] at hb ⊢
    have hbn : b < n := by
      rcases hb with h | h
      · exact bt_hi hp ha h
      · omega
    have hdn : d < n := bt_hi hp hbn hd
    rcases hb with h | rfl
    · exact .inl (ht a b d ha hbn hdn h hd)
    · exact .inl hd
  have := (reach_facts hp (by rw [hl]; exact ha) (a := a)).2.2.1 _ hT (by rw [Nat.testBit_or, Nat.testBit_two_pow]; simp) c h
  rw [Nat.testBit_or, Nat.testBit_two_pow] at this
  simp only [Bool.or_eq_true, decide_eq_true_eq] at this
  rcases this with h | h
  · exact .inr h
  · exact .inl h.symm
theorem trans_top (hp : tourP n xs) (ht : transP xs n) {S : Nat} (hS : S < 2 ^ n) (hc : clo xs S) (h0 : S ≠ 0) : cardN (topF xs n S) n = 1 := by
  obtain ⟨b, hb, hbt⟩ := top_ex hp hS hc h0
  have h1 := card_pos hb hbt
  have h2 : cardN (topF xs n S) n ≤ 1 := card_uniq fun c d hc' hd' h3 h4 => by
    rw [testBit_topF] at h3 h4
    simp only [Bool.and_eq_true, decide_eq_true_eq, beq_iff_eq] at h3 h4
    rcases trans_reach hp ht hc' (c := d) (by rw [h3.2.2]; exact h4.2.1) with e | e
    · exact e.symm
    · rcases trans_reach hp ht hd' (c := c) (by rw [h4.2.2]; exact h3.2.1) with e' | e'
      · exact e'
      · rw [(bt_asym hp hc' hd' e).1] at e'; cases e'
  omega
theorem trans_parts (hp : tourP n xs) (ht : transP xs n) : ∀ B S, S < B → S < 2 ^ n → clo xs S → (partsN xs S).length = cardN S n := by
  intro B
  induction B with
  | zero => intro S h; omega
  | succ B ih =>
    intro S hB hS hc
    by_cases h0 : S = 0
    · subst h0; rw [partsN_zero]; unfold cardN memN; rw [List.filter_eq_nil_iff.2 (by simp)]
    · obtain ⟨h1, h2⟩ := rest_n hp hS hc h0
      have h3 := ih (less S (topF xs n S)) (by omega) (by omega) h2
      have h5 := card_split (top_sub xs n S) n
      have h6 := trans_top hp ht hS hc h0
      rw [parts_step hp hS hc h0, List.length_cons]
      omega
theorem clo_all (hp : tourP n xs) : clo xs (2 ^ n - 1) := fun b c h hc => by
  rw [testBit_full, decide_eq_true_eq] at h ⊢
  exact bt_hi hp h hc
theorem reach_eq (hp : tourP n xs) {a b : Nat} (ha : a < n) (hb : b < n) (h1 : (reachN xs a).testBit b = true) (h2 : (reachN xs b).testBit a = true) : reachN xs a = reachN xs b := by
  have fa := reach_facts hp (by rw [tour_len hp]; exact ha) (a := a)
  have fb := reach_facts hp (by rw [tour_len hp]; exact hb) (a := b)
  exact sub_eq (fa.2.2.1 _ fb.2.1 h2) (fb.2.2.1 _ fa.2.1 h1)
theorem reach_step (hp : tourP n xs) {a b c : Nat} (ha : a < n) (h : (reachN xs a).testBit b = true) (hbc : bt xs b c = true) : (reachN xs a).testBit c = true :=
  (reach_facts hp (by rw [tour_len hp]; exact ha) (a := a)).2.1 b c h hbc
/-- as many parts as players: the tour is transitive -/
theorem trans_iff (hp : tourP n xs) : (partsN xs (2 ^ n - 1)).length = n ↔ transP xs n := by
  have hlt : 2 ^ n - 1 < 2 ^ n := by have := Nat.one_le_two_pow (n := n); omega
  constructor
  · intro e a b c ha hb hc hab hbc
    have hac : a ≠ c := fun e2 => by subst e2; rw [(bt_asym hp ha hb hab).1] at hbc; cases hbc
    rcases q : bt xs a c with _ | _
    · exfalso
      have hca := (bt_flip hp hc ha (Ne.symm hac)).2 q
      have raa := (reach_facts hp (by rw [tour_len hp]; exact ha) (a := a)).1
      have rbb := (reach_facts hp (by rw [tour_len hp]; exact hb) (a := b)).1
      have r1 := reach_step hp ha raa hab
      have r2 := reach_step hp hb (reach_step hp hb rbb hbc) hca
      have re := reach_eq hp ha hb r1 r2
      obtain ⟨P, hP, h1, h2⟩ := parts_mem hp _ _ (Nat.lt_succ_self _) hlt (clo_all hp) a (by rw [testBit_full]; simp [ha])
      have h3 := h2 b hb re.symm
      have h4 := (parts_card hp _ _ (Nat.lt_succ_self _) hlt (clo_all hp)).2 (by rw [e, card_full]) P hP
      have h5 := card_two ha hb h1 h3 (bt_asym hp ha hb hab).2
      omega
    · rfl
  · intro ht
    rw [trans_parts hp ht _ _ (Nat.lt_succ_self _) hlt (clo_all hp), card_full]
end
end Go.Proofs.YthoodjjjklbggaaDoor

