/- Texts put together: Cond, Cover, KgF, StK, Clone. -/
import Derived.Test.YtbkiedhaacapbaaGreatMTop07
import Derived.Test.YtbkiedhaacapbaaGreatMTop10
import Derived.Test.YtbkiedhaacapbaaGreatMTop02
import Derived.Test.YtbkiedhaacapbaaGreatMTop08
import Derived.Test.YtbkiedhaacapbaaGreatMTop09
import Derived.Test.YtbkiedhaacapbaaGreatMTop05
import Derived.Test.YtbkiedhaacapbaaGreatMTop01
namespace Go.Proofs.YtbkiedhaacapbaaGreat
open Go.RowKit Go.Sort
set_option maxRecDepth 100000
def clo (xs : List Int) (S : Nat) : Prop := ∀ b c, S.testBit b = true → (winsN xs b).testBit c = true → S.testBit c = true
theorem it_sup (xs : List Int) (n : Nat) : ∀ f S c, S.testBit c = true → (itN xs n f S).testBit c = true := by
  intro f
  induction f with
  | zero => intro S c h; exact h
  | succ f ih =>
    intro S c h
    rw [itN]
    split
    · exact h
    · exact ih _ _ (by rw [testBit_orK, h]; rfl)
theorem it_sub {xs : List Int} {n T : Nat} (hT : clo xs T) : ∀ f S, (∀ c, S.testBit c = true → T.testBit c = true) → ∀ c, (itN xs n f S).testBit c = true → T.testBit c = true := by
  intro f
  induction f with
  | zero => intro S h c hc; exact h c hc
  | succ f ih =>
    intro S h c hc
    rw [itN] at hc
    split at hc
    · exact h c hc
    · refine ih _ (fun d hd => ?_) c hc
      rw [testBit_orK, Bool.or_eq_true, List.any_eq_true] at hd
      rcases hd with hd | ⟨b, hb, hbd⟩
      · exact h d hd
      · exact hT b d (h b (mem_memN.1 hb).2) hbd
theorem it_fix {xs : List Int} {n : Nat} (hn : n ≤ 8) (hw : ∀ b, b < n → winsN xs b < 2 ^ n) : ∀ f S, S < 2 ^ n → 256 ≤ f + S → itN xs n f S < 2 ^ n ∧ orK xs (memN (itN xs n f S) n) (itN xs n f S) = itN xs n f S := by
  have hp := pow_le hn
  intro f
  induction f with
  | zero => intro S hS h; omega
  | succ f ih =>
    intro S hS h
    rw [itN]
    split
    · rename_i he; exact ⟨hS, he⟩
    · rename_i he
      have h1 := orK_ge xs (memN S n) S
      exact ih _ (orK_ltn hw (fun b hb => (mem_memN.1 hb).1) hS) (by omega)
theorem reach_facts {s : Int} {xs : List Int} (hp : tourP s xs) {a : Nat} (ha : a < xs.length) :
    (reachN xs a).testBit a = true ∧ clo xs (reachN xs a) ∧ (∀ T, clo xs T → T.testBit a = true → ∀ c, (reachN xs a).testBit c = true → T.testBit c = true) ∧ reachN xs a < 2 ^ xs.length := by
  have hn : xs.length ≤ 8 := by have := hp.1; have := hp.2.1; omega
  have hw : ∀ b, b < xs.length → winsN xs b < 2 ^ xs.length := fun b hb => by
    have := (tour_wins hp hb).2.1
    rwa [show s.toNat = xs.length by have := hp.2.1; omega] at this
  have h2 : 2 ^ a < 2 ^ xs.length := Nat.pow_lt_pow_right (by decide) ha
  have h34 : reachN xs a < 2 ^ xs.length ∧ orK xs (memN (reachN xs a) xs.length) (reachN xs a) = reachN xs a := it_fix hn hw 256 (2 ^ a) h2 (Nat.le_add_right _ _)
  obtain ⟨h3, h4⟩ := h34
  refine ⟨it_sup xs xs.length 256 (2 ^ a) a (by simp), fun b c hb hc => ?_, fun T hT hTa c hc => it_sub hT 256 (2 ^ a) (fun d hd => ?_) c hc, h3⟩
  · have hbn : b < xs.length := by
      rcases Nat.lt_or_ge b xs.length with h | h
      · exact h
      · rw [Nat.testBit_lt_two_pow (Nat.lt_of_lt_of_le h3 (Nat.pow_le_pow_right (by decide) h))] at hb; cases hb
    have : (orK xs (memN (reachN xs a) xs.length) (reachN xs a)).testBit c = true := by
      rw [testBit_orK, Bool.or_eq_true, List.any_eq_true]
      exact .inr ⟨b, mem_memN.2 ⟨hbn, hb⟩, hc⟩
    rwa [h4] at this
  · rw [Nat.testBit_two_pow] at hd
    have : a = d := by simpa using hd
    subst this; exact hTa
theorem sub_eq {A B : Nat} (h1 : ∀ c, A.testBit c = true → B.testBit c = true) (h2 : ∀ c, B.testBit c = true → A.testBit c = true) : A = B :=
  Nat.eq_of_testBit_eq fun c => by rw [Bool.eq_iff_iff]; exact ⟨h1 c, h2 c⟩
theorem bit_lt {S n c : Nat} (hS : S < 2 ^ n) (h : S.testBit c = true) : c < n := by
  rcases Nat.lt_or_ge c n with h1 | h1
  · exact h1
  · rw [Nat.testBit_lt_two_pow (Nat.lt_of_lt_of_le hS (Nat.pow_le_pow_right (by decide) h1))] at h; cases h
def scK (xs : List Int) (a : Nat) : Nat := popN 8 (winsN xs a)
/-- who beats all of another one's reach has the greater score -/
theorem score_up {s : Int} {xs : List Int} (hp : tourP s xs) {a d : Nat} (ha : a < xs.length) (hd : d < xs.length) (h : ∀ e, (reachN xs a).testBit e = true → (winsN xs d).testBit e = true) : scK xs a < scK xs d := by
  have hn : xs.length ≤ 8 := by have := hp.1; have := hp.2.1; omega
  obtain ⟨h1, h2, -, h4⟩ := reach_facts hp ha
  unfold scK
  rw [pop_mem (tour_wins hp ha).2.2, pop_mem (tour_wins hp hd).2.2]
  have h5 := card_less (S := reachN xs a) (n := 8) (b := a) (mem_memN.2 ⟨by omega, h1⟩)
  have h6 := card_mono (S := winsN xs a) (T := less (reachN xs a) (2 ^ a)) (n := 8) (fun j hj => by
    rw [testBit_less, h2 a j h1 hj, Nat.testBit_two_pow]
    by_cases e : a = j
    · subst e; rw [beat_self hp ha] at hj; cases hj
    · simp [e])
  have h7 := card_mono (S := reachN xs a) (T := winsN xs d) (n := 8) h
  omega
/-- who is not reached beats all that are -/
theorem beats_reach {s : Int} {xs : List Int} (hp : tourP s xs) {a d : Nat} (ha : a < xs.length) (hd : d < xs.length) (h : (reachN xs a).testBit d = false) : ∀ e, (reachN xs a).testBit e = true → (winsN xs d).testBit e = true := by
  intro e he
  obtain ⟨-, h2, -, h4⟩ := reach_facts hp ha
  have hen := bit_lt h4 he
  have hne : d ≠ e := by intro e'; subst e'; rw [he] at h; cases h
  rw [beat_one hp hd hen hne]
  rcases q : (winsN xs e).testBit d with _ | _
  · rfl
  · rw [h2 e d he q] at h; cases h
def topF (xs : List Int) (n S : Nat) : Nat := setOf (fun a => S.testBit a && reachN xs a == S) n
theorem testBit_topF (xs : List Int) (n S c : Nat) : (topF xs n S).testBit c = (decide (c < n) && (S.testBit c && reachN xs c == S)) := testBit_setOf _ _ _
def partsF (xs : List Int) (n : Nat) : Nat → Nat → List Nat
  | 0, _ => []
  | f + 1, S => if S = 0 then [] else topF xs n S :: partsF xs n f (less S (topF xs n S))
theorem top_some {s : Int} {xs : List Int} (hp : tourP s xs) {S : Nat} (hS : S < 2 ^ xs.length) (hc : clo xs S) : ∀ k a, S.testBit a = true → 8 - scK xs a ≤ k → ∃ b, S.testBit b = true ∧ reachN xs b = S := by
  intro k
  induction k with
  | zero =>
    intro a ha hk
    have han := bit_lt hS ha
    obtain ⟨-, -, h3, h4⟩ := reach_facts hp han
    refine ⟨a, ha, sub_eq (h3 S hc ha) fun d hd => ?_⟩
    rcases q : (reachN xs a).testBit d with _ | _
    · have h5 := score_up hp han (bit_lt hS hd) (beats_reach hp han (bit_lt hS hd) q)
      have h6 : scK xs d ≤ 8 := by unfold scK; rw [pop_mem (tour_wins hp (bit_lt hS hd)).2.2]; exact memN_len _ _
      omega
    · rfl
  | succ k ih =>
    intro a ha hk
    have han := bit_lt hS ha
    obtain ⟨-, -, h3, h4⟩ := reach_facts hp han
    by_cases he : reachN xs a = S
    · exact ⟨a, ha, he⟩
    · have : ∃ d, S.testBit d = true ∧ (reachN xs a).testBit d = false := by
        apply Classical.byContradiction
        intro hno
        refine he (sub_eq (h3 S hc ha) fun d hd => ?_)
        rcases q : (reachN xs a).testBit d with _ | _
        · exact absurd ⟨d, hd, q⟩ hno
        · rfl
      obtain ⟨d, hd, hq⟩ := this
      have h5 := score_up hp han (bit_lt hS hd) (beats_reach hp han (bit_lt hS hd) hq)
      have h6 : scK xs d ≤ 8 := by unfold scK; rw [pop_mem (tour_wins hp (bit_lt hS hd)).2.2]; exact memN_len _ _
      exact ih d hd (by omega)
theorem add_disj {A B : Nat} (hA : A < 2 ^ 62) (hB : B < 2 ^ 62) (h : A &&& B = 0) : A + B = A ||| B := by
  have h1 : A < 2 ^ 64 := Nat.lt_trans hA (by decide)
  have h2 : B < 2 ^ 64 := Nat.lt_trans hB (by decide)
  have hb : (BitVec.ofNat 64 A) &&& (BitVec.ofNat 64 B) = 0#64 := by
    apply BitVec.eq_of_toNat_eq
    rw [BitVec.toNat_and, BitVec.toNat_ofNat, BitVec.toNat_ofNat, Nat.mod_eq_of_lt h1, Nat.mod_eq_of_lt h2, h]
    rfl
  have e1 : (2 : Nat) ^ 62 = 4611686018427387904 := by decide
  have e3 : (2 : Nat) ^ 64 = 18446744073709551616 := by decide
  have hlt : A + B < 2 ^ 64 := by omega
  have h3 := congrArg BitVec.toNat (BitVec.add_eq_or_of_and_eq_zero _ _ hb)
  rw [BitVec.toNat_add, BitVec.toNat_or, BitVec.toNat_ofNat, BitVec.toNat_ofNat, Nat.mod_eq_of_lt h1, Nat.mod_eq_of_lt h2, Nat.mod_eq_of_lt hlt] at h3
  exact h3
theorem less_sub {S T : Nat} (hS : S < 256) (hT : T < 256) (h : ∀ c, T.testBit c = true → S.testBit c = true) : less S T + T = S := by
  have h1 : less S T &&& T = 0 := Nat.eq_of_testBit_eq fun c => by
    rw [Nat.testBit_and, testBit_less, Nat.zero_testBit]
    cases S.testBit c <;> cases T.testBit c <;> rfl
  have h2 : less S T ||| T = S := Nat.eq_of_testBit_eq fun c => by
    rw [Nat.testBit_or, testBit_less]
    rcases q : T.testBit c with _ | _
    · simp
    · rw [h c q]; simp
  have h3 : less S T < 2 ^ 8 := less_lt hS
  have e : (256 : Nat) < 2 ^ 62 := by decide
  rw [add_disj (by omega) (by omega) h1, h2]
theorem top_sub (xs : List Int) (n S : Nat) : ∀ c, (topF xs n S).testBit c = true → S.testBit c = true := fun c h => by
  rw [testBit_topF] at h
  simp at h
  exact h.2.1
theorem rest_lt {s : Int} {xs : List Int} (hp : tourP s xs) {S : Nat} (hS : S < 2 ^ xs.length) (hc : clo xs S) (h0 : S ≠ 0) : less S (topF xs xs.length S) < S := by
  have hn : xs.length ≤ 8 := by have := hp.1; have := hp.2.1; omega
  have hp8 := pow_le hn
  have hT : topF xs xs.length S < 256 := setOf_small _ hn
  have h1 := less_sub (by omega) hT (top_sub xs xs.length S)
  obtain ⟨a, ha⟩ := Nat.exists_testBit_of_ne_zero h0
  obtain ⟨b, hb, hr⟩ := top_some hp hS hc 8 a ha (by omega)
  have h2 : (topF xs xs.length S).testBit b = true := by rw [testBit_topF]; simp [bit_lt hS hb, hb, hr]
  have h3 : topF xs xs.length S ≠ 0 := by intro e; rw [e] at h2; simp at h2
  omega
theorem rest_clo {s : Int} {xs : List Int} (hp : tourP s xs) {S : Nat} (hS : S < 2 ^ xs.length) (hc : clo xs S) : clo xs (less S (topF xs xs.length S)) := by
  intro b c hb hbc
  rw [testBit_less, Bool.and_eq_true] at hb
  have hbn := bit_lt hS hb.1
  have hcS := hc b c hb.1 hbc
  have hcn := bit_lt hS hcS
  obtain ⟨b1, b2, b3, -⟩ := reach_facts hp hbn
  obtain ⟨c1, c2, c3, -⟩ := reach_facts hp hcn
  rw [testBit_less, hcS, Bool.true_and]
  rcases q : (topF xs xs.length S).testBit c with _ | _
  · rfl
  · rw [testBit_topF] at q
    have hrc : reachN xs c = S := by simp at q; exact q.2.2
    have hrb : reachN xs b = S := sub_eq (b3 S hc hb.1) fun d hd => by
      rw [← hrc] at hd
      exact c3 _ b2 (b2 b c b1 hbc) d hd
    have : (topF xs xs.length S).testBit b = true := by rw [testBit_topF]; simp [hbn, hb.1, hrb]
    rw [this] at hb
    simp at hb
theorem parts_fuel {s : Int} {xs : List Int} (hp : tourP s xs) : ∀ f g S, S < f → S < g → S < 2 ^ xs.length → clo xs S → partsF xs xs.length f S = partsF xs xs.length g S := by
  intro f
  induction f with
  | zero => intro g S h; omega
  | succ f ih =>
    intro g S hf hg hS hc
    obtain ⟨g, rfl⟩ : ∃ k, g = k + 1 := ⟨g - 1, by omega⟩
    rw [partsF, partsF]
    split
    · rfl
    · rename_i h0
      have h1 := rest_lt hp hS hc h0
      rw [ih g _ (by omega) (by omega) (by omega) (rest_clo hp hS hc)]
def partsN (xs : List Int) (S : Nat) : List Nat := partsF xs xs.length (S + 1) S
theorem partsN_zero (xs : List Int) : partsN xs 0 = [] := by simp [partsN, partsF]
theorem partsN_step {s : Int} {xs : List Int} (hp : tourP s xs) {S : Nat} (hS : S < 2 ^ xs.length) (hc : clo xs S) (h0 : S ≠ 0) : partsN xs S = topF xs xs.length S :: partsN xs (less S (topF xs xs.length S)) := by
  have h1 := rest_lt hp hS hc h0
  unfold partsN
  rw [partsF, if_neg h0, parts_fuel hp S (less S (topF xs xs.length S) + 1) _ (by omega) (by omega) (by omega) (rest_clo hp hS hc)]
/-- one more part, from the back -/
theorem part_more {s : Int} {xs : List Int} (hp : tourP s xs) {K x : Nat} (hK : K < 2 ^ xs.length) (hc : clo xs K) (hx : x < xs.length) (hn : K.testBit x = false) (hlow : ∀ y, y < xs.length → scK xs y < scK xs x → K.testBit y = true) :
    less (reachN xs x) K = topF xs xs.length (reachN xs x) ∧ K ||| reachN xs x = reachN xs x ∧ less (reachN xs x) (topF xs xs.length (reachN xs x)) = K := by
  obtain ⟨x1, x2, x3, x4⟩ := reach_facts hp hx
  have hA : ∀ c, K.testBit c = true → (reachN xs x).testBit c = true := fun c h => by
    have hcn := bit_lt hK h
    have hne : x ≠ c := by intro e; subst e; rw [h] at hn; cases hn
    refine x2 x c x1 ?_
    rw [beat_one hp hx hcn hne]
    rcases q : (winsN xs c).testBit x with _ | _
    · rfl
    · rw [hc c x h q] at hn; cases hn
  have hB : ∀ c, (reachN xs x).testBit c = true → (K.testBit c = true ↔ ¬ reachN xs c = reachN xs x) := fun c h => by
    have hcn := bit_lt x4 h
    obtain ⟨c1, c2, c3, -⟩ := reach_facts hp hcn
    constructor
    · intro hk e
      have := c3 K hc hk x (by rw [e]; exact x1)
      rw [this] at hn; cases hn
    · intro hne
      refine hlow c hcn (score_up hp hcn hx (beats_reach hp hcn hx ?_))
      rcases q : (reachN xs c).testBit x with _ | _
      · rfl
      · exact absurd (sub_eq (c3 _ x2 h) (x3 _ c2 q)) hne
  refine ⟨Nat.eq_of_testBit_eq fun c => ?_, Nat.eq_of_testBit_eq fun c => ?_, Nat.eq_of_testBit_eq fun c => ?_⟩
  · rw [testBit_less, testBit_topF]
    rcases q : (reachN xs x).testBit c with _ | _
    · simp
    · have h1 := hB c q
      have h2 := bit_lt x4 q
      rcases k : K.testBit c with _ | _
      · rw [k] at h1
        have : reachN xs c = reachN xs x := Classical.byContradiction fun hne => by have := h1.2 hne; cases this
        simp [h2, this]
      · rw [k] at h1
        have := h1.1 rfl
        simp [this]
  · rw [Nat.testBit_or]
    rcases k : K.testBit c with _ | _
    · rfl
    · rw [hA c k]; rfl
  · rw [testBit_less, testBit_topF]
    rcases q : (reachN xs x).testBit c with _ | _
    · rcases k : K.testBit c with _ | _
      · rfl
      · rw [hA c k] at q; cases q
    · have h1 := hB c q
      have h2 := bit_lt x4 q
      rcases k : K.testBit c with _ | _
      · rw [k] at h1
        have : reachN xs c = reachN xs x := Classical.byContradiction fun hne => by have := h1.2 hne; cases this
        simp [h2, this]
      · rw [k] at h1
        have := h1.1 rfl
        simp [this]
theorem or_clo {xs : List Int} {A B : Nat} (hA : clo xs A) (hB : clo xs B) : clo xs (A ||| B) := fun b c hb hc => by
  rw [Nat.testBit_or, Bool.or_eq_true] at hb ⊢
  rcases hb with hb | hb
  · exact .inl (hA b c hb hc)
  · exact .inr (hB b c hb hc)
end Go.Proofs.YtbkiedhaacapbaaGreat

namespace Go.Proofs.YtbkiedhaacapbaaGreat
open Go.RowKit Go.Sort

noncomputable def coverB (s : Int) (xs : List Int) (a b : Int) : Bool := beatB s xs a b && (bits BinOp.andNot IntKind.i64 (xs.getD b.toNat 0) (xs.getD a.toNat 0) == 0)

end Go.Proofs.YtbkiedhaacapbaaGreat

namespace Go.Proofs.YtbkiedhaacapbaaGreat
open Go.RowKit Go.Sort
set_option maxRecDepth 100000
section
variable {n : Nat} {xs : List Int}
theorem wins_n (hp : tourP n xs) {a : Nat} (ha : a < n) : winsN xs a < 2 ^ n := by
  have := (tour_wins hp (tour_len hp ▸ ha)).2.1
  rwa [show ((n : Int)).toNat = n from rfl] at this
theorem bt_hi (hp : tourP n xs) {a b : Nat} (ha : a < n) (hb : bt xs a b = true) : b < n := by
  rcases Nat.lt_or_ge b n with h | h
  · exact h
  · have := wins_hi hp (tour_len hp ▸ ha) (b := b) (by rw [tour_len hp]; exact h)
    unfold bt at hb
    rw [this] at hb; cases hb
/-- a king reaches everybody in two steps -/
theorem king_iff (hp : tourP n xs) {a : Nat} (ha : a < n) : kingN xs a = true ↔ ∀ c, c < n → c = a ∨ bt xs a c = true ∨ ∃ b, b < n ∧ bt xs a b = true ∧ bt xs b c = true := by
  have hl := tour_len hp
  have h8 : n ≤ 8 := by have := hp.1; omega
  have hb : ∀ c, (nearN xs a).testBit c = true ↔ (bt xs a c = true ∨ a = c) ∨ ∃ b, b < n ∧ bt xs a b = true ∧ bt xs b c = true := fun c => by
    unfold nearN
    rw [testBit_orK, Nat.testBit_or, Nat.testBit_two_pow]
    simp only [Bool.or_eq_true, decide_eq_true_eq, List.any_eq_true]
    constructor
    · rintro (h | ⟨b, hb, h⟩)
      · exact .inl h
      · have h2 := (mem_memN.1 hb).2
        exact .inr ⟨b, bt_hi hp ha h2, h2, h⟩
    · rintro (h | ⟨b, hb, h1, h2⟩)
      · exact .inl h
      · exact .inr ⟨b, mem_memN.2 ⟨by omega, h1⟩, h2⟩
  have hlt : nearN xs a < 2 ^ n := by
    have := orK_ltn (xs := xs) (fun b hb => by rw [hl]; exact wins_n hp (by rw [hl] at hb; exact hb)) (wins_mem hp (by omega : a < xs.length)) (S := winsN xs a ||| 2 ^ a) (by rw [hl]; exact Nat.or_lt_two_pow (wins_n hp ha) (Nat.pow_lt_pow_right (by decide) ha))
    rw [hl] at this
    exact this
  unfold kingN
  rw [hl, beq_iff_eq]
  constructor
  · intro e c hc
    have := hb c
    rw [e, testBit_full, decide_eq_true_eq] at this
    rcases this.1 hc with (h | h) | h
    · exact .inr (.inl h)
    · exact .inl h.symm
    · exact .inr (.inr h)
  · intro h
    refine Nat.eq_of_testBit_eq fun j => ?_
    rw [testBit_full]
    by_cases hj : j < n
    · rw [decide_eq_true hj]
      refine (hb j).2 ?_
      rcases h j hj with h | h | h
      · exact .inl (.inr h.symm)
      · exact .inl (.inl h)
      · exact .inr h
    · rw [decide_eq_false hj]
      exact Nat.testBit_lt_two_pow (Nat.lt_of_lt_of_le hlt (Nat.pow_le_pow_right (by decide) (by omega)))
theorem bt_flip (hp : tourP n xs) {a b : Nat} (ha : a < n) (hb : b < n) (hab : a ≠ b) : (bt xs a b = true ↔ bt xs b a = false) := by
  rw [(tr_bit hp ha hb).2 hab]
  cases bt xs b a <;> simp
theorem bt_asym (hp : tourP n xs) {a b : Nat} (ha : a < n) (hb : b < n) (h : bt xs a b = true) : bt xs b a = false ∧ a ≠ b := by
  have hab : a ≠ b := fun e => by rw [(tr_bit hp ha hb).1 e] at h; cases h
  exact ⟨(bt_flip hp ha hb hab).1 h, hab⟩
/-- c beats a, and all whom a beats -/
def cvN (xs : List Int) (n c a : Nat) : Prop := bt xs c a = true ∧ ∀ j, j < n → bt xs a j = true → bt xs c j = true
theorem king_cover (hp : tourP n xs) {a : Nat} (ha : a < n) : kingN xs a = false ↔ ∃ c, c < n ∧ cvN xs n c a := by
  constructor
  · intro hk
    have hk' : ¬ (∀ c, c < n → c = a ∨ bt xs a c = true ∨ ∃ b, b < n ∧ bt xs a b = true ∧ bt xs b c = true) := fun h => by rw [(king_iff hp ha).2 h] at hk; cases hk
    obtain ⟨c, hc⟩ := Classical.not_forall.1 hk'
    obtain ⟨hcn, h⟩ := Classical.not_imp.1 hc
    rw [not_or, not_or] at h
    obtain ⟨h1, h2, h3⟩ := h
    have hca : bt xs c a = true := (bt_flip hp hcn ha h1).2 (by simpa using h2)
    refine ⟨c, hcn, hca, fun j hj haj => ?_⟩
    have hcj : c ≠ j := fun e => by subst e; exact h2 haj
    refine (bt_flip hp hcn hj hcj).2 ?_
    rcases q : bt xs j c with _ | _
    · rfl
    · exact absurd ⟨j, hj, haj, q⟩ h3
  · rintro ⟨c, hc, h1, h2⟩
    rcases q : kingN xs a with _ | _
    · rfl
    · exfalso
      have hac := bt_asym hp hc ha h1
      rcases (king_iff hp ha).1 q c hc with h | h | ⟨b, hb, h3, h4⟩
      · exact hac.2 h
      · rw [hac.1] at h; cases h
      · have := h2 b hb h3
        rw [(bt_asym hp hb hc h4).1] at this; cases this
theorem kst_mem (hp : tourP n xs) {a b : Nat} : b ∈ loseN xs a xs.length ↔ b < n ∧ bt xs b a = true := by
  rw [mem_loseN, tour_len hp]
  constructor
  · rintro ⟨h1, h2⟩
    exact ⟨h1, by rw [← bitI_bt (tour_wins hp (by rw [tour_len hp]; exact h1)).1]; exact h2⟩
  · rintro ⟨h1, h2⟩
    exact ⟨h1, by rw [bitI_bt (tour_wins hp (by rw [tour_len hp]; exact h1)).1]; exact h2⟩
/-- the step: to a king who beats a, if anybody does -/
theorem kst_king (hp : tourP n xs) {a : Nat} (ha : a < n) (hex : ∃ b, b < n ∧ bt xs b a = true) : kstepN xs a < n ∧ bt xs (kstepN xs a) a = true ∧ kingN xs (kstepN xs a) = true := by
  have hself : a ∉ loseN xs a xs.length := fun h => by have := (kst_mem hp).1 h; rw [(tr_bit hp ha ha).1 rfl] at this; cases this.2
  rcases kstK_best (xs := xs) hself with ⟨e, _⟩ | ⟨hm, hx⟩
  · obtain ⟨b, hb, h⟩ := hex
    have := (kst_mem hp).2 ⟨hb, h⟩
    rw [e] at this; cases this
  · have hm' := (kst_mem hp).1 hm
    change kstepN xs a < n ∧ _ at hm'
    refine ⟨hm'.1, hm'.2, ?_⟩
    rcases q : kingN xs (kstepN xs a) with _ | _
    · exfalso
      obtain ⟨c, hc, h1, h2⟩ := (king_cover hp hm'.1).1 q
      have hca := h2 a ha hm'.2
      have h3 : popN 8 (winsN xs c) ≤ popN 8 (winsN xs (kstepN xs a)) := hx c ((kst_mem hp).2 ⟨hc, hca⟩)
      have e1 := sc_sum hp hc
      have e2 := sc_sum hp hm'.1
      have hle : sumN (fun b => if bt xs (kstepN xs a) b = true then (1 : Int) else 0) n + 1 ≤ sumN (fun b => if bt xs c b = true then (1 : Int) else 0) n := by
        have e3 : sumN (fun b => (if bt xs (kstepN xs a) b = true then (1 : Int) else 0) + (if b = kstepN xs a then 1 else 0)) n = sumN (fun b => if bt xs (kstepN xs a) b = true then (1 : Int) else 0) n + 1 := by
          rw [sumN_add, sumN_one hm'.1 (fun k _ hk => if_neg hk), if_pos rfl]
        rw [← e3]
        have : ∀ m, m ≤ n → sumN (fun b => (if bt xs (kstepN xs a) b = true then (1 : Int) else 0) + (if b = kstepN xs a then 1 else 0)) m ≤ sumN (fun b => if bt xs c b = true then (1 : Int) else 0) m := by
          intro m
          induction m with
          | zero => intro _; simp [sumN]
          | succ m ih =>
            intro hm
            have ih := ih (by omega)
            rw [sumN, sumN]
            have : (if bt xs (kstepN xs a) m = true then (1 : Int) else 0) + (if m = kstepN xs a then 1 else 0) ≤ if bt xs c m = true then (1 : Int) else 0 := by
              by_cases e : m = kstepN xs a
              · rw [if_pos e, e, (tr_bit hp hm'.1 hm'.1).1 rfl, if_pos h1]; simp
              · rw [if_neg e]
                rcases q2 : bt xs (kstepN xs a) m with _ | _
                · simp; split <;> omega
                · rw [h2 m (by omega) q2]; simp
            omega
        exact this n (Nat.le_refl _)
      rw [← e1, ← e2] at hle
      unfold scN at hle
      omega
    · rfl
theorem kst_none {a : Nat} (hp : tourP n xs) (hno : ∀ b, b < n → bt xs b a = false) : kstepN xs a = a := by
  have : loseN xs a xs.length = [] := List.eq_nil_iff_forall_not_mem.2 fun b hb => by
    have := (kst_mem hp).1 hb
    rw [hno b this.1] at this; cases this.2
  unfold kstepN
  rw [this]
  rfl
/-- the set of kings -/
def kgS (xs : List Int) (n : Nat) : Nat := setOf (fun a => kingN xs a) n
theorem kg_bit {a : Nat} : (kgS xs n).testBit a = true ↔ a < n ∧ kingN xs a = true := by
  unfold kgS
  rw [testBit_setOf]
  simp
theorem kg_lt : kgS xs n < 2 ^ n := setOf_lt _ _
/-- a sovereign beats everybody -/
def svP (xs : List Int) (n a : Nat) : Prop := a < n ∧ ∀ b, b < n → bt xs b a = false
theorem sv_score (hp : tourP n xs) {a : Nat} (ha : a < n) : scN xs a = n - 1 ↔ svP xs n a := by
  have h := by_sum hp ha
  constructor
  · intro e
    have h0 : sumN (fun b => if bt xs b a = true then (1 : Int) else 0) n = 0 := by omega
    refine ⟨ha, fun b hb => ?_⟩
    rcases q : bt xs b a with _ | _
    · rfl
    · exfalso
      have h1 : sumN (fun k => if k = b then (1 : Int) else 0) n ≤ sumN (fun b => if bt xs b a = true then (1 : Int) else 0) n := by
        have : 0 ≤ sumN (fun k => (if bt xs k a = true then (1 : Int) else 0) - if k = b then 1 else 0) n := sumN_nonneg fun k hk => by
          by_cases e : k = b
          · subst e; rw [q]; simp
          · rw [if_neg e]; split <;> omega
        rw [sumN_sub] at this
        omega
      rw [sumN_one hb (fun k _ hk => if_neg hk), if_pos rfl] at h1
      omega
  · rintro ⟨-, h1⟩
    have h0 : sumN (fun b => if bt xs b a = true then (1 : Int) else 0) n = 0 := sumN_zero' fun b hb => by rw [h1 b hb]; rfl
    omega
theorem sv_king (hp : tourP n xs) {a : Nat} (h : svP xs n a) : ∀ b, b < n → (kingN xs b = true ↔ b = a) := by
  intro b hb
  have hall : ∀ c, c < n → c ≠ a → bt xs a c = true := fun c hc hca => (bt_flip hp h.1 hc (Ne.symm hca)).2 (h.2 c hc)
  constructor
  · intro hk
    refine Classical.byContradiction fun hba => ?_
    rcases (king_iff hp hb).1 hk a h.1 with e | e | ⟨c, hc, -, e⟩
    · exact hba e.symm
    · rw [h.2 b hb] at e; cases e
    · rw [h.2 c hc] at e; cases e
  · rintro rfl
    refine (king_iff hp hb).2 fun c hc => ?_
    by_cases e : c = b
    · exact .inl e
    · exact .inr (.inl (hall c hc e))
theorem king_ex (hp : tourP n xs) : ∃ a, a < n ∧ kingN xs a = true := by
  have hn : 0 < n := by have := hp.1; omega
  by_cases h : ∃ b, b < n ∧ bt xs b 0 = true
  · have := kst_king hp hn h
    exact ⟨_, this.1, this.2.2⟩
  · have hs : svP xs n 0 := ⟨hn, fun b hb => by
      rcases q : bt xs b 0 with _ | _
      · rfl
      · exact absurd ⟨b, hb, q⟩ h⟩
    exact ⟨0, hn, (sv_king hp hs 0 hn).2 rfl⟩
theorem three_len {l : List Nat} {a b c : Nat} (ha : a ∈ l) (hb : b ∈ l) (hc : c ∈ l) (h1 : a ≠ b) (h2 : a ≠ c) (h3 : b ≠ c) : 3 ≤ l.length := by
  have e1 := List.length_erase_of_mem ha
  have hb' : b ∈ l.erase a := (List.mem_erase_of_ne (Ne.symm h1)).2 hb
  have hc' : c ∈ l.erase a := (List.mem_erase_of_ne (Ne.symm h2)).2 hc
  have e2 := List.length_erase_of_mem hb'
  have hc'' : c ∈ (l.erase a).erase b := (List.mem_erase_of_ne (Ne.symm h3)).2 hc'
  have e3 := List.length_pos_of_mem hc''
  omega
/-- one king, who is the sovereign, or three at least -/
theorem king_three (hp : tourP n xs) (hno : ∀ a, ¬ svP xs n a) : 3 ≤ popN 8 (kgS xs n) := by
  have h8 : n ≤ 8 := by have := hp.1; omega
  have hdom : ∀ a, a < n → ∃ b, b < n ∧ bt xs b a = true := fun a ha => by
    refine Classical.byContradiction fun h => hno a ⟨ha, fun b hb => ?_⟩
    rcases q : bt xs b a with _ | _
    · rfl
    · exact absurd ⟨b, hb, q⟩ h
  obtain ⟨a, ha, ka⟩ := king_ex hp
  obtain ⟨hb, ba, kb⟩ := kst_king hp ha (hdom a ha)
  generalize kstepN xs a = b at *
  obtain ⟨hc, cb, kc⟩ := kst_king hp hb (hdom b hb)
  generalize kstepN xs b = c at *
  have h256 : kgS xs n < 256 := Nat.lt_of_lt_of_le kg_lt (Nat.pow_le_pow_right (n := 2) (j := 8) (by decide) h8)
  rw [pop_mem h256]
  have hca : c ≠ a := fun e => by subst e; rw [(bt_asym hp hc hb cb).1] at ba; cases ba
  exact three_len (a := a) (b := b) (c := c) (mem_memN.2 ⟨by omega, kg_bit.2 ⟨ha, ka⟩⟩) (mem_memN.2 ⟨by omega, kg_bit.2 ⟨hb, kb⟩⟩) (mem_memN.2 ⟨by omega, kg_bit.2 ⟨hc, kc⟩⟩) (Ne.symm (bt_asym hp hb ha ba).2) (Ne.symm hca) (Ne.symm (bt_asym hp hc hb cb).2)
theorem sv_kings (hp : tourP n xs) {a : Nat} (h : svP xs n a) : kgS xs n = 2 ^ a := by
  refine Nat.eq_of_testBit_eq fun j => ?_
  rw [Nat.testBit_two_pow]
  rw [Bool.eq_iff_iff, kg_bit, decide_eq_true_eq]
  constructor
  · rintro ⟨hj, hk⟩; exact ((sv_king hp h j hj).1 hk).symm
  · rintro rfl; exact ⟨h.1, (sv_king hp h a h.1).2 rfl⟩
theorem pop_pow {a : Nat} (h : a < 8) : popN 8 (2 ^ a) = 1 := by
  have : ∀ a : Fin 8, popN 8 (2 ^ a.1) = 1 := by decide
  exact this ⟨a, h⟩
end
end Go.Proofs.YtbkiedhaacapbaaGreat

namespace Go.Proofs.YtbkiedhaacapbaaGreat
open Go.RowKit Go.Sort
set_option maxRecDepth 100000
def ctN : Nat → Nat
  | 1 => 0x0
  | 2 => 0x2
  | 3 => 0x4
  | 4 => 0x4000e08
  | 5 => 0x8000800081e1c10
  | 6 => 0x800000000000000000000000008080000000000000000000010001c00000010001000100010003e3e3e3e103e103e103c3820
  | 7 => 0x80000000000000000000000000000000000000000000000000000000000000000000000000000000000000010000000000000000000000000000000000000000000000000000000000000000000000010000000000000000000101000000000000000000000000000001000000000100000000000100000000000101000000000000000000000000000000000000000000000000000000000000000000000000000000000000000000000100000000000000000000000000000000000000000000000000000000000000000000000000000000000100000000000000000001000000000001000000000000000000010000000000010000000000010100000000000001010000000000000101000000000000010100000000000001010000000000000000000000000000010100000000000000000000020000000000020002000200010003c0000000000000010000000000010100000000000003800000020002000200020003800000020002000200020007e7e7e7e7e107e7e7e7e7e7e7e7e7e7e7e7e10107e7e7e7e7e7e7e7e7e7e207e387e7e7e207e207e207e207e7c7c7c7c207c207c20787040
  | _ => 0
def ct (n j : Nat) : Nat := (ctN n >>> (8 * j)) % 256
/-- a set that beats all others -/
def ctOk (n T S : Nat) : Bool := Nat.blt 0 S && Nat.blt S (2 ^ n - 1) && (List.range n).all fun a => (List.range n).all fun b => !(S.testBit a) || S.testBit b || bN T a b
/-- a way goes on to one that comes back; the way is written backwards -/
def cyF (T n a : Nat) : Nat → List Nat → Bool
  | 0, way => bN T (way.headD 0) a
  | m + 1, way => (List.range n).any fun b => bN T (way.headD 0) b && (!(way.contains b) && cyF T n a m (b :: way))
theorem cyc_all : ∀ n, n < 7 → ((List.range (rc n)).all fun j => ctOk n (rp n j) (ct n j) || (List.range n).all fun a => (List.range (n - 2)).all fun k => cyF (rp n j) n a (k + 2) [a]) = true := by decide +kernel
theorem ham_all : ∀ n, n < 8 → 3 ≤ n → ((List.range (rc n)).all fun j => ctOk n (rp n j) (ct n j) || cyF (rp n j) n 0 (n - 1) [0]) = true := by decide +kernel
end Go.Proofs.YtbkiedhaacapbaaGreat

namespace Go.Proofs.YtbkiedhaacapbaaGreat
open Go.RowKit Go.Sort
set_option maxRecDepth 100000

theorem wp_appendN {ops : Array Oper} {rest : List Oper} {o : Oper} {a : Act} {Q : Exit → Act → World → Prop} (w : World) (hgd : o.guard = none) (s x : Operand)
    (ho : o.op = .call { callee := .builtin .append, args := #[s, x], argTypes := #[23, 23] })
    (base : Nat) (v : Value) (xs : List Int) (hs : a.eval s = v) (hown : Own w base v xs) (ad : Addr) (c : Nat) (ys : List Int) (hx : a.eval x = .slice (some ad) ys.length c)
    (hc : ∀ k, k < ys.length → w.cell? (ad.add k) = some (.int .i64 (ys.getD k 0)))
    (hlen : xs.length + ys.length ≤ 1099511627776) (hbase : base ≤ w.heap.size)
    (h : ∀ v' w', Own w' base v' (xs ++ ys) → w.grownBy w' v.ownBlock → wpList Tryz.prog ops Q rest (a.put o.dst v') w') :
    wpList Tryz.prog ops Q (o :: rest) a w := by
  obtain ⟨i0, hi, hz0, hz1, hz2⟩ := info_parts i64_info
  have hown' : w.ownsRow base 3 1 v xs.length (xs.map (Value.int .i64)) := hown
  refine wpList_append_own _ hgd s x 23 ho base 3 i0 (.int .i64 0) 1 8 Tryz.underlying23 hi hz0 hz1 hz2 rfl (by decide) v xs.length (xs.map (Value.int .i64)) hs hown' ad ys.length c (ys.map (Value.int .i64)) hx (by simp) ?_ ?_ ?_ ?_ ?_ ?_
  · intro j u hj
    have hjl : j < ys.length := by simpa using (List.getElem?_eq_some_iff.1 hj).1
    rw [hc j hjl]
    simp [hjl] at hj
    simp [hjl, hj]
  · intro u hu; simp at hu; obtain ⟨y, -, rfl⟩ := hu; rfl
  · unfold maxLen; omega
  · omega
  · exact hbase
  · intro v' w' h1 h2 _
    refine h v' w' ?_ h2
    unfold Own
    rw [List.length_append, List.map_append]
    exact h1
set_option maxHeartbeats 400000 in
theorem clone_any (v : Value) (xs : List Int) (w : World) (h : Rd w v xs) (h0 : 0 < xs.length) (hl : xs.length ≤ 1048576) :
    Calls Tryz.prog 74 #[v] w fun e w' => ∃ v', e = .returned v' ∧ Own w' w.heap.size v' xs ∧ Below w.heap.size w w' := by
  obtain ⟨A, c, rfl, hlc, hm, hc⟩ := h
  obtain ⟨g, off, rfl, hg, hx⟩ := hc h0
  have hx' : ∀ k, k < xs.length → (w.alloc (.cells #[] 3)).cell? ((⟨g, off, none⟩ : Addr).add k) = some (.int .i64 (xs.getD k 0)) := fun k hk => by
    rw [Addr.add_lit, World.cell?_alloc_lt _ _ _ (by exact hg)]
    exact hx k hk
  have HX := Lib.hid hx'
  have ho := Own.lit w w.heap.size [] (Nat.le_refl _) (by simp)
  have HO := Lib.hid ho
  clear hx hx' hc ho
  generalize hn : xs.length = n at *
  have HN := Lib.hid hn
  have e0 : ∀ w : World, (binOp .eql 23 (.slice (some ⟨g, off, none⟩) n c) (.slice none 0 0)).run Tryz.prog w = .ok (.bool false) w := fun _ => by kernel_rfl
  go_enter Tryz.func74, Tryz.ntmps74
  go_wp2_with (at_builtin; refine wp_appendN (w.alloc (.cells #[] 3)) rfl (.tmp 5) (.tmp 6) rfl w.heap.size _ [] rfl HO.out ⟨g, off, none⟩ c xs (by rw [hn]; simp [Act.eval]) (by rw [hn]; exact HX.out) (by simp; omega) (by simp) ?_; intro v' w' ho hgr; have HO2 := Lib.hid ho; have HG2 := Lib.hid hgr; clear ho hgr)
  go_ret
  exact ⟨_, rfl, by simpa using HO2.out, Below.grown (below_alloc1 w _) HG2.out (by simp) (fun k hk => (HO.out.lt k hk).1)⟩
end Go.Proofs.YtbkiedhaacapbaaGreat

