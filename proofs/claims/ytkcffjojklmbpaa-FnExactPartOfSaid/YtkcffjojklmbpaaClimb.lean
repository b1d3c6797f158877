/- FnExactClimbToKing: the functions. -/
import Derived.Test.YtkcffjojklmbpaaKStep
import Derived.Test.YtkcffjojklmbpaaKing
import Derived.Test.YtkcffjojklmbpaaWays
import Derived.Test.YtkcffjojklmbpaaReach
namespace Go.Proofs.Ytkcffjojklmbpaa
open Go.RowKit Go.Sort

theorem pop_mem {S : Nat} (h : S < 256) : popN 8 S = (memN S 8).length := by
  have : ∀ S : Fin 256, popN 8 S.1 = (memN S.1 8).length := by decide +kernel
  exact this ⟨S, h⟩
theorem card_mono {S T n : Nat} (h : ∀ j, S.testBit j = true → T.testBit j = true) : (memN S n).length ≤ (memN T n).length := by
  unfold memN
  rw [← List.countP_eq_length_filter, ← List.countP_eq_length_filter]
  exact List.countP_mono_left fun j _ hj => h j hj
theorem testBit_orK (xs : List Int) (l : List Nat) (S j : Nat) : (orK xs l S).testBit j = (S.testBit j || l.any fun b => (winsN xs b).testBit j) := by
  induction l generalizing S with
  | nil => simp [orK]
  | cons b l ih =>
    have : orK xs (b :: l) S = orK xs l (S ||| winsN xs b) := by simp [orK]
    rw [this, ih, Nat.testBit_or, List.any_cons, Bool.or_assoc]
theorem mem_loseN {xs : List Int} {a n b : Nat} : b ∈ loseN xs a n ↔ b < n ∧ bitI (xs.getD b 0) a = true := by simp [loseN]
/-- two players: one of them beats the other one, and not both -/
theorem beat_one {s : Int} {xs : List Int} (hp : tourP s xs) {a b : Nat} (ha : a < xs.length) (hb : b < xs.length) (hab : a ≠ b) : (winsN xs a).testBit b = !(winsN xs b).testBit a := by
  have h1 : ∀ a b, a < xs.length → b < a → (winsN xs a).testBit b ≠ (winsN xs b).testBit a := fun a b ha hb => by
    have := (hp.2.2.2 a ha).2 b hb
    rwa [bit_nat hp ha, bit_nat hp (by omega : b < xs.length)] at this
  rcases Nat.lt_or_gt_of_ne hab with h | h
  · have := h1 b a hb h
    revert this; cases (winsN xs a).testBit b <;> cases (winsN xs b).testBit a <;> simp
  · have := h1 a b ha h
    revert this; cases (winsN xs a).testBit b <;> cases (winsN xs b).testBit a <;> simp
theorem beat_self {s : Int} {xs : List Int} (hp : tourP s xs) {a : Nat} (ha : a < xs.length) : (winsN xs a).testBit a = false := by
  have := (hp.2.2.2 a ha).1
  rwa [bit_nat hp ha] at this
theorem wins_hi {s : Int} {xs : List Int} (hp : tourP s xs) {a b : Nat} (ha : a < xs.length) (hb : xs.length ≤ b) : (winsN xs a).testBit b = false := by
  have h1 := (tour_wins hp ha).2.1
  have h2 := hp.2.1
  exact Nat.testBit_lt_two_pow (Nat.lt_of_lt_of_le h1 (Nat.pow_le_pow_right (by decide) (by omega)))
theorem kstK_best {xs : List Int} {a : Nat} {l : List Nat} (ha : a ∉ l) :
    (l = [] ∧ kstK xs a l = a) ∨ (kstK xs a l ∈ l ∧ ∀ b ∈ l, popN 8 (winsN xs b) ≤ popN 8 (winsN xs (kstK xs a l))) := by
  rcases List.eq_nil_or_concat l with rfl | ⟨l', b, rfl⟩
  · exact .inl ⟨rfl, rfl⟩
  · right
    rw [List.concat_eq_append] at ha ⊢
    have hn : l'.length < (l' ++ [b]).length := by simp
    have ih := kstK_best (xs := xs) (a := a) (l := l') (fun h => ha (by simp [h]))
    have hb : a ≠ b := fun h => ha (by simp [h])
    rw [kstK_snoc]
    unfold stepF
    rcases ih with ⟨rfl, e⟩ | ⟨hm, hx⟩
    · rw [e]; simp
    · have hne : kstK xs a l' ≠ a := fun h => ha (by rw [h] at hm; simp [hm])
      split
      · rename_i h
        rcases h with h | h
        · exact absurd h hne
        · refine ⟨by simp, fun c hc => ?_⟩
          rw [List.mem_append, List.mem_singleton] at hc
          rcases hc with hc | rfl
          · have := hx c hc; omega
          · exact Nat.le_refl _
      · rename_i h
        refine ⟨by simp [hm], fun c hc => ?_⟩
        rw [List.mem_append, List.mem_singleton] at hc
        rcases hc with hc | rfl
        · exact hx c hc
        · omega
termination_by l.length
/-- who is no king is beaten by someone with a greater score -/
theorem step_up {s : Int} {xs : List Int} (hp : tourP s xs) {a : Nat} (ha : a < xs.length) (hk : kingN xs a = false) : popN 8 (winsN xs a) < popN 8 (winsN xs (kstepN xs a)) := by
  have h8 : xs.length ≤ 8 := by have := hp.1; have := hp.2.1; omega
  have hex : ∃ c, c < xs.length ∧ (nearN xs a).testBit c = false := by
    refine Classical.byContradiction fun hc => ?_
    have hall : ∀ c, c < xs.length → (nearN xs a).testBit c = true := fun c h => by
      rcases q : (nearN xs a).testBit c with _ | _
      · exact absurd ⟨c, h, q⟩ hc
      · rfl
    have hlt : nearN xs a < 2 ^ xs.length := by
      have hw : ∀ b, b < xs.length → winsN xs b < 2 ^ xs.length := fun b hb => by
        have := (tour_wins hp hb).2.1
        rwa [show s.toNat = xs.length by have := hp.2.1; omega] at this
      exact orK_ltn hw (wins_mem hp ha) (Nat.or_lt_two_pow (hw a ha) (Nat.pow_lt_pow_right (by decide) ha))
    have : nearN xs a = 2 ^ xs.length - 1 := Nat.eq_of_testBit_eq fun j => by
      rw [testBit_full]
      by_cases hj : j < xs.length
      · simp [hall j hj, hj]
      · simp only [hj, decide_false]
        exact Nat.testBit_lt_two_pow (Nat.lt_of_lt_of_le hlt (Nat.pow_le_pow_right (by decide) (by omega)))
    simp [kingN, this] at hk
  obtain ⟨c, hc, hn⟩ := hex
  unfold nearN at hn
  rw [testBit_orK, Nat.testBit_or, Nat.testBit_two_pow] at hn
  simp only [Bool.or_eq_false_iff, decide_eq_false_iff_not, List.any_eq_false] at hn
  obtain ⟨⟨h1, h2⟩, h3⟩ := hn
  have hca : (winsN xs c).testBit a = true := by
    have := beat_one hp hc ha (fun e => h2 e.symm)
    rw [this, h1]; rfl
  have hsub : ∀ j, (winsN xs a).testBit j = true → (less (winsN xs c) (2 ^ a)).testBit j = true := fun j hj => by
    have hjn : j < xs.length := by
      rcases Nat.lt_or_ge j xs.length with h | h
      · exact h
      · rw [wins_hi hp ha h] at hj; simp at hj
    have hja : a ≠ j := fun e => by subst e; rw [beat_self hp ha] at hj; simp at hj
    have hjc : c ≠ j := fun e => by subst e; rw [h1] at hj; simp at hj
    have h4 : (winsN xs j).testBit c = false := by
      have := h3 j (mem_memN.2 ⟨by omega, hj⟩)
      simpa using this
    have h5 := beat_one hp hc hjn hjc
    rw [testBit_less, Nat.testBit_two_pow, h5, h4]
    simp [hja]
  have hm : a ∈ memN (winsN xs c) 8 := mem_memN.2 ⟨by omega, hca⟩
  have hcard := card_less hm
  have hle := card_mono (n := 8) hsub
  rw [← pop_mem (tour_wins hp hc).2.2] at hcard
  rw [← pop_mem (tour_wins hp ha).2.2] at hle
  have hmem : c ∈ loseN xs a xs.length := mem_loseN.2 ⟨hc, by rw [bit_nat hp hc]; exact hca⟩
  have hself : a ∉ loseN xs a xs.length := fun h => by
    have := (mem_loseN.1 h).2
    rw [bit_nat hp ha, beat_self hp ha] at this
    simp at this
  rcases kstK_best (xs := xs) hself with ⟨e, _⟩ | ⟨_, hx⟩
  · rw [e] at hmem; simp at hmem
  · have := hx c hmem
    unfold kstepN
    omega
theorem kstep_lt {xs : List Int} {a : Nat} (ha : a < xs.length) : kstepN xs a < xs.length := kstK_mem ha fun b hb => (mem_loseN.1 hb).1
def climbF (xs : List Int) : Nat → Nat → Nat
  | 0, a => a
  | f + 1, a => if kingN xs a = true then a else climbF xs f (kstepN xs a)
theorem climb_same {s : Int} {xs : List Int} (hp : tourP s xs) (f : Nat) : ∀ (a : Nat), a < xs.length → 8 - popN 8 (winsN xs a) < f → ∀ g, 8 - popN 8 (winsN xs a) < g → climbF xs f a = climbF xs g a := by
  induction f with
  | zero => intro a _ h; omega
  | succ f ih =>
    intro a ha hf g hg
    obtain ⟨g, rfl⟩ : ∃ g', g = g' + 1 := ⟨g - 1, by omega⟩
    simp only [climbF]
    rcases q : kingN xs a with _ | _
    · have := step_up hp ha q
      have := popN_le 8 (winsN xs (kstepN xs a))
      simp only [Bool.false_eq_true, if_false]
      exact ih _ (kstep_lt ha) (by omega) g (by omega)
    · simp
theorem climb_step {s : Int} {xs : List Int} (hp : tourP s xs) {a : Nat} (ha : a < xs.length) (hk : kingN xs a = false) : climbF xs 9 (kstepN xs a) = climbF xs 9 a := by
  have e : climbF xs 9 a = climbF xs 8 (kstepN xs a) := by simp [climbF, hk]
  have := step_up hp ha hk
  have := popN_le 8 (winsN xs (kstepN xs a))
  rw [e]
  exact climb_same hp 9 _ (kstep_lt ha) (by omega) 8 (by omega)
theorem climb_stop {xs : List Int} {a : Nat} (hk : kingN xs a = true) : climbF xs 9 a = a := by simp [climbF, hk]
noncomputable def climbI (s : Int) (xs : List Int) (a : Int) : Int := if (tourB s xs && inB a 0 (s - 1)) = true then (climbF xs 9 a.toNat : Int) else -1
end Go.Proofs.Ytkcffjojklmbpaa
