/- Texts put together: Cover, KgF, Dfs, GsP, Red, RedQ, RowsL, Rows2, Max, Strat, Bal, Bal2, TourL. -/
import Derived.Test.YtajeledbmnndmaaMSafe02
import Derived.Test.YtajeledbmnndmaaMSafe03
import Derived.Test.YtajeledbmnndmaaMSafe01
import Derived.Maps.AppendAt
import Derived.Deep.RegionHeld3
namespace Go.Proofs.Ytajeledbmnndmaa
open Go.RowKit Go.Sort

noncomputable def coverB (s : Int) (xs : List Int) (a b : Int) : Bool := beatB s xs a b && (bits BinOp.andNot IntKind.i64 (xs.getD b.toNat 0) (xs.getD a.toNat 0) == 0)

end Go.Proofs.Ytajeledbmnndmaa

namespace Go.Proofs.Ytajeledbmnndmaa
open Go.RowKit Go.Sort
set_option maxRecDepth 100000
section
variable {n : Nat} {xs : List Int}
theorem wins_n (hp : tourP n xs) {a : Nat} (ha : a < n) : winsN xs a < 2 ^ n := by
  have := (tour_wins hp (tour_len hp ▸ ha)).2.1
  rwa [show ((n : Int)).toNat = n from rfl] at this
theorem bt_hi (hp : tourP n xs) {a b : Nat} (ha : a < n) (hb : bt xs a b = true) : b < n := by
  rcases Nat.lt_or_ge b n with h | h
  · exact h
  · have := wins_hi hp (tour_len hp ▸ ha) (b := b) (by rw [tour_len hp]; exact h)
    unfold bt at hb
    rw [this] at hb; cases hb
/-- a king reaches everybody in two steps -/
theorem king_iff (hp : tourP n xs) {a : Nat} (ha : a < n) : kingN xs a = true ↔ ∀ c, c < n → c = a ∨ bt xs a c = true ∨ ∃ b, b < n ∧ bt xs a b = true ∧ bt xs b c = true := by
  have hl := tour_len hp
  have h8 : n ≤ 8 := by have := hp.1; omega
  have hb : ∀ c, (nearN xs a).testBit c = true ↔ (bt xs a c = true ∨ a = c) ∨ ∃ b, b < n ∧ bt xs a b = true ∧ bt xs b c = true := fun c => by
    unfold nearN
    rw [testBit_orK, Nat.testBit_or, Nat.testBit_two_pow]
    simp only [Bool.or_eq_true, decide_eq_true_eq, List.any_eq_true]
    constructor
    · rintro (h | ⟨b, hb, h⟩)
      · exact .inl h
      · have h2 := (mem_memN.1 hb).2
        exact .inr ⟨b, bt_hi hp ha h2, h2, h⟩
    · rintro (h | ⟨b, hb, h1, h2⟩)
      · exact .inl h
      · exact .inr ⟨b, mem_memN.2 ⟨by omega, h1⟩, h2⟩
  have hlt : nearN xs a < 2 ^ n := by
    have := orK_ltn (xs := xs) (fun b hb => by rw [hl]; exact wins_n hp (by rw [hl] at hb; exact hb)) (wins_mem hp (by omega : a < xs.length)) (S := winsN xs a ||| 2 ^ a) (by rw [hl]; exact Nat.or_lt_two_pow (wins_n hp ha) (Nat.pow_lt_pow_right (by decide) ha))
    rw [hl] at this
    exact this
  unfold kingN
  rw [hl, beq_iff_eq]
  constructor
  · intro e c hc
    have := hb c
    rw [e, testBit_full, decide_eq_true_eq] at this
    rcases this.1 hc with (h | h) | h
    · exact .inr (.inl h)
    · exact .inl h.symm
    · exact .inr (.inr h)
  · intro h
    refine Nat.eq_of_testBit_eq fun j => ?_
    rw [testBit_full]
    by_cases hj : j < n
    · rw [decide_eq_true hj]
      refine (hb j).2 ?_
      rcases h j hj with h | h | h
      · exact .inl (.inr h.symm)
      · exact .inl (.inl h)
      · exact .inr h
    · rw [decide_eq_false hj]
      exact Nat.testBit_lt_two_pow (Nat.lt_of_lt_of_le hlt (Nat.pow_le_pow_right (by decide) (by omega)))
theorem bt_flip (hp : tourP n xs) {a b : Nat} (ha : a < n) (hb : b < n) (hab : a ≠ b) : (bt xs a b = true ↔ bt xs b a = false) := by
  rw [(tr_bit hp ha hb).2 hab]
  cases bt xs b a <;> simp
theorem bt_asym (hp : tourP n xs) {a b : Nat} (ha : a < n) (hb : b < n) (h : bt xs a b = true) : bt xs b a = false ∧ a ≠ b := by
  have hab : a ≠ b := fun e => by rw [(tr_bit hp ha hb).1 e] at h; cases h
  exact ⟨(bt_flip hp ha hb hab).1 h, hab⟩
/-- c beats a, and all whom a beats -/
def cvN (xs : List Int) (n c a : Nat) : Prop := bt xs c a = true ∧ ∀ j, j < n → bt xs a j = true → bt xs c j = true
theorem king_cover (hp : tourP n xs) {a : Nat} (ha : a < n) : kingN xs a = false ↔ ∃ c, c < n ∧ cvN xs n c a := by
  constructor
  · intro hk
    have hk' : ¬ (∀ c, c < n → c = a ∨ bt xs a c = true ∨ ∃ b, b < n ∧ bt xs a b = true ∧ bt xs b c = true) := fun h => by rw [(king_iff hp ha).2 h] at hk; cases hk
    obtain ⟨c, hc⟩ := Classical.not_forall.1 hk'
    obtain ⟨hcn, h⟩ := Classical.not_imp.1 hc
    rw [not_or, not_or] at h
    obtain ⟨h1, h2, h3⟩ := h
    have hca : bt xs c a = true := (bt_flip hp hcn ha h1).2 (by simpa using h2)
    refine ⟨c, hcn, hca, fun j hj haj => ?_⟩
    have hcj : c ≠ j := fun e => by subst e; exact h2 haj
    refine (bt_flip hp hcn hj hcj).2 ?_
    rcases q : bt xs j c with _ | _
    · rfl
    · exact absurd ⟨j, hj, haj, q⟩ h3
  · rintro ⟨c, hc, h1, h2⟩
    rcases q : kingN xs a with _ | _
    · rfl
    · exfalso
      have hac := bt_asym hp hc ha h1
      rcases (king_iff hp ha).1 q c hc with h | h | ⟨b, hb, h3, h4⟩
      · exact hac.2 h
      · rw [hac.1] at h; cases h
      · have := h2 b hb h3
        rw [(bt_asym hp hb hc h4).1] at this; cases this
theorem kst_mem (hp : tourP n xs) {a b : Nat} : b ∈ loseN xs a xs.length ↔ b < n ∧ bt xs b a = true := by
  rw [mem_loseN, tour_len hp]
  constructor
  · rintro ⟨h1, h2⟩
    exact ⟨h1, by rw [← bitI_bt (tour_wins hp (by rw [tour_len hp]; exact h1)).1]; exact h2⟩
  · rintro ⟨h1, h2⟩
    exact ⟨h1, by rw [bitI_bt (tour_wins hp (by rw [tour_len hp]; exact h1)).1]; exact h2⟩
/-- the step: to a king who beats a, if anybody does -/
theorem kst_king (hp : tourP n xs) {a : Nat} (ha : a < n) (hex : ∃ b, b < n ∧ bt xs b a = true) : kstepN xs a < n ∧ bt xs (kstepN xs a) a = true ∧ kingN xs (kstepN xs a) = true := by
  have hself : a ∉ loseN xs a xs.length := fun h => by have := (kst_mem hp).1 h; rw [(tr_bit hp ha ha).1 rfl] at this; cases this.2
  rcases kstK_best (xs := xs) hself with ⟨e, _⟩ | ⟨hm, hx⟩
  · obtain ⟨b, hb, h⟩ := hex
    have := (kst_mem hp).2 ⟨hb, h⟩
    rw [e] at this; cases this
  · have hm' := (kst_mem hp).1 hm
    change kstepN xs a < n ∧ _ at hm'
    refine ⟨hm'.1, hm'.2, ?_⟩
    rcases q : kingN xs (kstepN xs a) with _ | _
    · exfalso
      obtain ⟨c, hc, h1, h2⟩ := (king_cover hp hm'.1).1 q
      have hca := h2 a ha hm'.2
      have h3 : popN 8 (winsN xs c) ≤ popN 8 (winsN xs (kstepN xs a)) := hx c ((kst_mem hp).2 ⟨hc, hca⟩)
      have e1 := sc_sum hp hc
      have e2 := sc_sum hp hm'.1
      have hle : sumN (fun b => if bt xs (kstepN xs a) b = true then (1 : Int) else 0) n + 1 ≤ sumN (fun b => if bt xs c b = true then (1 : Int) else 0) n := by
        have e3 : sumN (fun b => (if bt xs (kstepN xs a) b = true then (1 : Int) else 0) + (if b = kstepN xs a then 1 else 0)) n = sumN (fun b => if bt xs (kstepN xs a) b = true then (1 : Int) else 0) n + 1 := by
          rw [sumN_add, sumN_one hm'.1 (fun k _ hk => if_neg hk), if_pos rfl]
        rw [← e3]
        have : ∀ m, m ≤ n → sumN (fun b => (if bt xs (kstepN xs a) b = true then (1 : Int) else 0) + (if b = kstepN xs a then 1 else 0)) m ≤ sumN (fun b => if bt xs c b = true then (1 : Int) else 0) m := by
          intro m
          induction m with
          | zero => intro _; simp [sumN]
          | succ m ih =>
            intro hm
            have ih := ih (by omega)
            rw [sumN, sumN]
            have : (if bt xs (kstepN xs a) m = true then (1 : Int) else 0) + (if m = kstepN xs a then 1 else 0) ≤ if bt xs c m = true then (1 : Int) else 0 := by
              by_cases e : m = kstepN xs a
              · rw [if_pos e, e, (tr_bit hp hm'.1 hm'.1).1 rfl, if_pos h1]; simp
              · rw [if_neg e]
                rcases q2 : bt xs (kstepN xs a) m with _ | _
                · simp; split <;> omega
                · rw [h2 m (by omega) q2]; simp
            omega
        exact this n (Nat.le_refl _)
      rw [← e1, ← e2] at hle
      unfold scN at hle
      omega
    · rfl
theorem kst_none {a : Nat} (hp : tourP n xs) (hno : ∀ b, b < n → bt xs b a = false) : kstepN xs a = a := by
  have : loseN xs a xs.length = [] := List.eq_nil_iff_forall_not_mem.2 fun b hb => by
    have := (kst_mem hp).1 hb
    rw [hno b this.1] at this; cases this.2
  unfold kstepN
  rw [this]
  rfl
/-- the set of kings -/
def kgS (xs : List Int) (n : Nat) : Nat := setOf (fun a => kingN xs a) n
theorem kg_bit {a : Nat} : (kgS xs n).testBit a = true ↔ a < n ∧ kingN xs a = true := by
  unfold kgS
  rw [testBit_setOf]
  simp
theorem kg_lt : kgS xs n < 2 ^ n := setOf_lt _ _
/-- a sovereign beats everybody -/
def svP (xs : List Int) (n a : Nat) : Prop := a < n ∧ ∀ b, b < n → bt xs b a = false
theorem sv_score (hp : tourP n xs) {a : Nat} (ha : a < n) : scN xs a = n - 1 ↔ svP xs n a := by
  have h := by_sum hp ha
  constructor
  · intro e
    have h0 : sumN (fun b => if bt xs b a = true then (1 : Int) else 0) n = 0 := by omega
    refine ⟨ha, fun b hb => ?_⟩
    rcases q : bt xs b a with _ | _
    · rfl
    · exfalso
      have h1 : sumN (fun k => if k = b then (1 : Int) else 0) n ≤ sumN (fun b => if bt xs b a = true then (1 : Int) else 0) n := by
        have : 0 ≤ sumN (fun k => (if bt xs k a = true then (1 : Int) else 0) - if k = b then 1 else 0) n := sumN_nonneg fun k hk => by
          by_cases e : k = b
          · subst e; rw [q]; simp
          · rw [if_neg e]; split <;> omega
        rw [sumN_sub] at this
        omega
      rw [sumN_one hb (fun k _ hk => if_neg hk), if_pos rfl] at h1
      omega
  · rintro ⟨-, h1⟩
    have h0 : sumN (fun b => if bt xs b a = true then (1 : Int) else 0) n = 0 := sumN_zero' fun b hb => by rw [h1 b hb]; rfl
    omega
theorem sv_king (hp : tourP n xs) {a : Nat} (h : svP xs n a) : ∀ b, b < n → (kingN xs b = true ↔ b = a) := by
  intro b hb
  have hall : ∀ c, c < n → c ≠ a → bt xs a c = true := fun c hc hca => (bt_flip hp h.1 hc (Ne.symm hca)).2 (h.2 c hc)
  constructor
  · intro hk
    refine Classical.byContradiction fun hba => ?_
    rcases (king_iff hp hb).1 hk a h.1 with e | e | ⟨c, hc, -, e⟩
    · exact hba e.symm
    · rw [h.2 b hb] at e; cases e
    · rw [h.2 c hc] at e; cases e
  · rintro rfl
    refine (king_iff hp hb).2 fun c hc => ?_
    by_cases e : c = b
    · exact .inl e
    · exact .inr (.inl (hall c hc e))
theorem king_ex (hp : tourP n xs) : ∃ a, a < n ∧ kingN xs a = true := by
  have hn : 0 < n := by have := hp.1; omega
  by_cases h : ∃ b, b < n ∧ bt xs b 0 = true
  · have := kst_king hp hn h
    exact ⟨_, this.1, this.2.2⟩
  · have hs : svP xs n 0 := ⟨hn, fun b hb => by
      rcases q : bt xs b 0 with _ | _
      · rfl
      · exact absurd ⟨b, hb, q⟩ h⟩
    exact ⟨0, hn, (sv_king hp hs 0 hn).2 rfl⟩
theorem three_len {l : List Nat} {a b c : Nat} (ha : a ∈ l) (hb : b ∈ l) (hc : c ∈ l) (h1 : a ≠ b) (h2 : a ≠ c) (h3 : b ≠ c) : 3 ≤ l.length := by
  have e1 := List.length_erase_of_mem ha
  have hb' : b ∈ l.erase a := (List.mem_erase_of_ne (Ne.symm h1)).2 hb
  have hc' : c ∈ l.erase a := (List.mem_erase_of_ne (Ne.symm h2)).2 hc
  have e2 := List.length_erase_of_mem hb'
  have hc'' : c ∈ (l.erase a).erase b := (List.mem_erase_of_ne (Ne.symm h3)).2 hc'
  have e3 := List.length_pos_of_mem hc''
  omega
/-- one king, who is the sovereign, or three at least -/
theorem king_three (hp : tourP n xs) (hno : ∀ a, ¬ svP xs n a) : 3 ≤ popN 8 (kgS xs n) := by
  have h8 : n ≤ 8 := by have := hp.1; omega
  have hdom : ∀ a, a < n → ∃ b, b < n ∧ bt xs b a = true := fun a ha => by
    refine Classical.byContradiction fun h => hno a ⟨ha, fun b hb => ?_⟩
    rcases q : bt xs b a with _ | _
    · rfl
    · exact absurd ⟨b, hb, q⟩ h
  obtain ⟨a, ha, ka⟩ := king_ex hp
  obtain ⟨hb, ba, kb⟩ := kst_king hp ha (hdom a ha)
  generalize kstepN xs a = b at *
  obtain ⟨hc, cb, kc⟩ := kst_king hp hb (hdom b hb)
  generalize kstepN xs b = c at *
  have h256 : kgS xs n < 256 := Nat.lt_of_lt_of_le kg_lt (Nat.pow_le_pow_right (n := 2) (j := 8) (by decide) h8)
  rw [pop_mem h256]
  have hca : c ≠ a := fun e => by subst e; rw [(bt_asym hp hc hb cb).1] at ba; cases ba
  exact three_len (a := a) (b := b) (c := c) (mem_memN.2 ⟨by omega, kg_bit.2 ⟨ha, ka⟩⟩) (mem_memN.2 ⟨by omega, kg_bit.2 ⟨hb, kb⟩⟩) (mem_memN.2 ⟨by omega, kg_bit.2 ⟨hc, kc⟩⟩) (Ne.symm (bt_asym hp hb ha ba).2) (Ne.symm hca) (Ne.symm (bt_asym hp hc hb cb).2)
theorem sv_kings (hp : tourP n xs) {a : Nat} (h : svP xs n a) : kgS xs n = 2 ^ a := by
  refine Nat.eq_of_testBit_eq fun j => ?_
  rw [Nat.testBit_two_pow]
  rw [Bool.eq_iff_iff, kg_bit, decide_eq_true_eq]
  constructor
  · rintro ⟨hj, hk⟩; exact ((sv_king hp h j hj).1 hk).symm
  · rintro rfl; exact ⟨h.1, (sv_king hp h a h.1).2 rfl⟩
theorem pop_pow {a : Nat} (h : a < 8) : popN 8 (2 ^ a) = 1 := by
  have : ∀ a : Fin 8, popN 8 (2 ^ a.1) = 1 := by decide
  exact this ⟨a, h⟩
end
end Go.Proofs.Ytajeledbmnndmaa

namespace Go.Proofs.Ytajeledbmnndmaa
open Go.RowKit Go.Sort
set_option maxRecDepth 100000
def nI (l : List Nat) : List Int := l.map fun (a : Nat) => (a : Int)
theorem nI_len (l : List Nat) : (nI l).length = l.length := by simp [nI]
theorem nI_getD {l : List Nat} {k : Nat} (h : k < l.length) : (nI l).getD k 0 = ((l.getD k 0 : Nat) : Int) := by simp [nI, h]
theorem nI_snoc (l : List Nat) (b : Nat) : nI (l ++ [b]) = nI l ++ [(b : Int)] := by simp [nI]
def lastN (way : List Nat) : Nat := way.getD (way.length - 1) 0
def cand (xs : List Int) (n : Nat) (way : List Nat) : List Nat := (memN (winsN xs (lastN way)) n).filter fun b => !way.contains b
def dfs (xs : List Int) (n : Nat) (want : List Nat → Bool) : Nat → List Nat → Option (List Nat)
  | 0, way => if want way = true then some way else none
  | m + 1, way => (cand xs n way).findSome? fun b => dfs xs n want m (way ++ [b])
theorem fs_hit {β : Type} {l : List Nat} {F : Nat → Option β} {k : Nat} {y : β} (hk : k < l.length) (h0 : ∀ j, j < k → F (l.getD j 0) = none) (hy : F (l.getD k 0) = some y) : l.findSome? F = some y := by
  have e : l = l.take k ++ l.getD k 0 :: l.drop (k + 1) := by
    rw [getD_nat hk, ← List.drop_eq_getElem_cons hk, List.take_append_drop]
  have h1 : (l.take k).findSome? F = none := by
    rw [List.findSome?_eq_none_iff]
    intro x hx
    obtain ⟨j, hj, rfl⟩ := List.getElem_of_mem hx
    rw [List.length_take] at hj
    have := h0 j (by omega)
    rw [getD_nat (show j < l.length by omega)] at this
    simpa using this
  rw [e, List.findSome?_append, h1, List.findSome?_cons, hy]
  rfl
theorem fs_miss {β : Type} {l : List Nat} {F : Nat → Option β} (h0 : ∀ j, j < l.length → F (l.getD j 0) = none) : l.findSome? F = none := by
  rw [List.findSome?_eq_none_iff]
  intro x hx
  obtain ⟨j, hj, rfl⟩ := List.getElem_of_mem hx
  have := h0 j hj
  rwa [getD_nat hj] at this
theorem dfs_len {xs : List Int} {n : Nat} {want : List Nat → Bool} : ∀ {m : Nat} {way L : List Nat}, dfs xs n want m way = some L → L.length = way.length + m := by
  intro m
  induction m with
  | zero =>
    intro way L h
    rw [dfs] at h
    split at h
    · injection h with h; subst h; rfl
    · cases h
  | succ m ih =>
    intro way L h
    rw [dfs] at h
    obtain ⟨b, -, hb⟩ := List.exists_of_findSome?_eq_some h
    have := ih hb
    rw [List.length_append, List.length_singleton] at this
    omega
def setW (way : List Nat) : Nat := way.foldl (fun s b => s ||| 2 ^ b) 0
theorem setW_snoc (l : List Nat) (b : Nat) : setW (l ++ [b]) = setW l ||| 2 ^ b := by simp [setW, List.foldl_append]
theorem take_snocN' {l : List Nat} {k : Nat} (hk : k < l.length) : l.take (k + 1) = l.take k ++ [l.getD k 0] := by
  rw [List.take_succ_eq_append_getElem hk, getD_nat hk]
theorem testBit_setW (l : List Nat) (j : Nat) : (setW l).testBit j = l.contains j := by
  have : ∀ k, k ≤ l.length → (setW (l.take k)).testBit j = (l.take k).contains j := by
    intro k
    induction k with
    | zero => intro _; simp [setW]
    | succ k ih =>
      intro hk
      rw [take_snocN' (by omega), setW_snoc, Nat.testBit_or, ih (by omega), Nat.testBit_two_pow, Bool.eq_iff_iff]
      simp
      exact ⟨fun h => h.imp id Eq.symm, fun h => h.imp id Eq.symm⟩
  have := this l.length (Nat.le_refl _)
  rwa [List.take_length] at this
theorem setW_lt {l : List Nat} {n : Nat} (h : ∀ x ∈ l, x < n) : setW l < 2 ^ n := by
  apply Nat.lt_pow_two_of_testBit
  intro i hi
  rw [testBit_setW]
  rcases q : l.contains i with _ | _
  · rfl
  · have := h i (by simpa using q); omega
theorem memN_lessW (S n : Nat) (way : List Nat) : memN (less S (setW way)) n = (memN S n).filter fun b => !way.contains b := by
  unfold memN
  rw [List.filter_filter]
  refine List.filter_congr fun x _ => ?_
  rw [testBit_less, testBit_setW, Bool.and_comm]
theorem cand_lt {xs : List Int} {n : Nat} {way : List Nat} {b : Nat} (h : b ∈ cand xs n way) : b < n ∧ (winsN xs (lastN way)).testBit b = true ∧ ¬ b ∈ way := by
  unfold cand at h
  rw [List.mem_filter] at h
  exact ⟨(mem_memN.1 h.1).1, (mem_memN.1 h.1).2, by simpa using h.2⟩
theorem or_shl'' (S a : Nat) (hS : S < 4611686018427387904) (h : a ≤ 61) : bits .or .i64 (S : Int) (wrap64 (2 ^ a)) = ((S ||| 2 ^ a : Nat) : Int) := or_shl S a hS h
set_option maxHeartbeats 1000000 in
theorem isetOf_any (v : Value) (way : List Nat) (w : World) (h : Rd w v (nI way)) (hb : ∀ x ∈ way, x < 8) :
    Calls Try.prog 115 #[v] w fun e w' => e = .returned (.int .i64 (setW way : Nat)) ∧ w = w' := by
  obtain ⟨A, c, rfl, hl, hm, hc⟩ := h
  rw [nI_len] at hl hc
  unfold maxLen at hm
  have HC := Lib.hid hc
  have HB := Lib.hid hb
  rw [nI_len]
  generalize hn : way.length = n at *
  have HN := Lib.hid hn
  clear hc hb hn
  go_enter Try.func115, Try.ntmps115
  go_wp2
  go_loop [3, 8] (fun s i => ∃ k : Nat, k ≤ n ∧ i = .int .i64 k ∧ s = .int .i64 (setW (way.take k) : Nat)) (fun _ i => n - (intOf i).toNat)
  case atStart => exact ⟨0, by omega, rfl, by simp [setW]⟩
  case round =>
    obtain ⟨k, hk, rfl, rfl⟩ := hrel
    by_cases hlt : k < n
    · obtain ⟨g, off, rfl, hg, hx⟩ := HC.out (by omega)
      have hxk := hx k hlt
      have hkl : k < way.length := by rw [HN.out]; exact hlt
      rw [nI_getD hkl] at hxk
      have hlt8 : way.getD k 0 < 8 := HB.out _ (by rw [getD_nat hkl]; exact List.getElem_mem _)
      have hs := setW_lt (l := way.take k) (n := 8) fun x hx => HB.out x (List.mem_of_mem_take hx)
      have HS : Hid (setW (way.take (k + 1)) = setW (way.take k) ||| 2 ^ way.getD k 0) := by unfold Hid; rw [take_snocN' hkl, setW_snoc]
      clear hx
      generalize way.getD k 0 = b at *
      generalize setW (way.take k) = S at *
      have hor := or_shl S b (by omega) (by omega)
      go_wp2
      go_round
      case rel => exact ⟨k + 1, by omega, by go_num, by rw [HS.out]⟩
      case measure => simp [intOf]; omega
    · obtain rfl : n = k := by omega
      have HE : Hid (way.take n = way) := List.take_of_length_le (by rw [HN.out]; exact Nat.le_refl _)
      rw [HE.out]
      go_wp2
      go_ret
      exact ⟨rfl, rfl⟩
theorem own_prefix {w : World} {base g n c : Nat} {xs : List Int} {y : Int} (hn : xs.length = n) (h : Own w base (.slice (some ⟨g, 0, none⟩) (n + 1) c) (xs ++ [y])) : Own w base (.slice (some ⟨g, 0, none⟩) n c) xs := by
  subst hn
  refine ⟨by simp, .inr ?_⟩
  rcases h.2 with ⟨e, -⟩ | ⟨g', cap, cur, e, hb, hh, hle, hm, hs, ht⟩
  · cases e
  · injection e with e1 e2 e3
    injection e1 with e1
    injection e1 with e1 _ _
    subst e1 e3
    refine ⟨g, c, cur, rfl, hb, hh, by simp at hle; omega, hm, hs, ?_⟩
    have h1 := congrArg (List.take xs.length) ht
    rw [List.take_take] at h1
    simp at h1
    simpa using h1
theorem run_append1k (w : World) (ty : TypeId) (base : Nat) (v : Value) (xs : List Int) (y : Int) (gx : Nat) (hown : Own w base v xs) (hc : w.cell? ⟨gx, 0, none⟩ = some (.int .i64 y)) (hlen : xs.length ≤ 1099511627776) (hbase : base ≤ w.heap.size) :
    ∃ g c w', (Builtin.append_ #[22, 22] ty #[v, .slice (some ⟨gx, 0, none⟩) 1 1]).run Try.prog w = .ok (.slice (some ⟨g, 0, none⟩) (xs.length + 1) c) w' ∧
      Own w' base (.slice (some ⟨g, 0, none⟩) (xs.length + 1) c) (xs ++ [y]) ∧ Own w' base v xs ∧ w.grownBy w' v.ownBlock ∧ (v = .slice (some ⟨g, 0, none⟩) xs.length c ∨ g = w.heap.size) := by
  obtain ⟨i0, hi, hz0, hz1, hz2⟩ := info_parts i64_info
  have hnews : ∀ j u, [Value.int .i64 y][j]? = some u → w.cell? ((⟨gx, 0, none⟩ : Addr).add j) = some u := by
    intro j u hj
    match j, hj with
    | 0, hj => simp at hj; subst hj; simpa [Addr.add] using hc
  have h1 : ∀ u ∈ [Value.int .i64 y], u.oneCell' = true := by intro u hu; simp at hu; subst hu; rfl
  obtain ⟨v', w', hr, h2, h3, -, h5⟩ := run_append_own_at (P := Try.prog) w base 22 ty 3 i0 (.int .i64 0) 1 8 Try.underlying22 hi hz0 hz1 hz2 rfl (by decide) v xs.length (xs.map (Value.int .i64)) hown ⟨gx, 0, none⟩ 1 1 [.int .i64 y] rfl hnews h1 (by unfold maxLen; omega) (by omega) hbase
  have h2' : Own w' base v' (xs ++ [y]) := by unfold Own; rw [List.length_append, List.map_append]; exact h2
  obtain ⟨A, c', e, -, -, hA⟩ := h2'.form
  obtain ⟨g', rfl, -, -⟩ := hA (by simp)
  rw [List.length_append, List.length_singleton] at e
  subst e
  rcases hown.2 with ⟨rfl, h0⟩ | ⟨g, cap, cur, rfl, hbg, hg, hnc, hcm, hcs, htake⟩
  · refine ⟨g', c', w', hr, h2', ?_, h3, .inr ?_⟩
    · rw [show xs = [] from List.eq_nil_of_length_eq_zero h0]; exact Own.nil_ _ _
    · rcases h5 with h | h
      · simp [Value.ownBlock] at h
      · simpa [Value.ownBlock] using h
  · by_cases hroom : xs.length + 1 ≤ cap
    · have hr' := run_append_room (P := Try.prog) w 22 ty 3 i0 Try.underlying22 hi g xs.length cap cur hg ⟨gx, 0, none⟩ 1 1 [.int .i64 y] (by rw [hz1]; rfl) hnews h1 hroom (by rw [hz1]; simp; omega)
      have e := hr.symm.trans hr'
      injection e with e1 e2
      injection e1 with e1 e3 e4
      injection e1 with e1
      injection e1 with e1 _ _
      subst e1 e4
      exact ⟨g', c', w', hr, h2', own_prefix rfl h2', h3, .inl rfl⟩
    · have hr' := run_append_grow (P := Try.prog) w 22 ty 3 i0 (.int .i64 0) Try.underlying22 hi hz0 ⟨g, 0, none⟩ xs.length cap (xs.map (Value.int .i64)) (by rw [hz1]; simp) (hown.cells (g := g) rfl) ⟨gx, 0, none⟩ 1 1 [.int .i64 y] (by rw [hz1]; rfl) hnews (by omega) (by omega) (growslice_fits (by omega) (by rw [hz2]; omega))
      have e := hr.symm.trans hr'
      injection e with e1 e2
      injection e1 with e1 e3 e4
      injection e1 with e1
      injection e1 with e1 _ _
      subst e1 e2
      exact ⟨_, c', _, hr, h2', World.ownsRow.alloc (World.ownsRow.drew hown) _, h3, .inr rfl⟩
theorem step_append1k {ops : Array Oper} {o : Oper} {a : Act} {K : Act → World → Prop} {Q : Exit → Act → World → Prop} {E : Prop} (w : World) (hgd : o.guard = none) (s x : Operand)
    (ho : o.op = .call { callee := .builtin .append, args := #[s, x], argTypes := #[22, 22] })
    (base : Nat) (v : Value) (xs : List Int) (n : Nat) (hn : xs.length = n) (y : Int) (gx : Nat) (hs : a.eval s = v) (hown : Own w base v xs) (hx : a.eval x = .slice (some ⟨gx, 0, none⟩) 1 1) (hc : w.cell? ⟨gx, 0, none⟩ = some (.int .i64 y))
    (hlen : n ≤ 1099511627776) (hbase : base ≤ w.heap.size)
    (h : ∀ g c w', Own w' base (.slice (some ⟨g, 0, none⟩) (n + 1) c) (xs ++ [y]) → Own w' base v xs → w.grownBy w' v.ownBlock → (v = .slice (some ⟨g, 0, none⟩) n c ∨ g = w.heap.size) → K (a.put o.dst (.slice (some ⟨g, 0, none⟩) (n + 1) c)) w') :
    if Region.wanted o (yielded ops a.tmps) = true then Oper.wp Try.prog o a w K Q else E := by
  subst hn
  have hw : Region.wanted o (yielded ops a.tmps) = true := by simp [Region.wanted, hgd]
  rw [if_pos hw]
  obtain ⟨g, c, w', hr, h1, h2, h3, h4⟩ := run_append1k w o.type base v xs y gx hown hc hlen hbase
  unfold Oper.wp execOp
  simp only [ho, resolve, invoke, builtin, Sem.run_bind, Sem.run_pure, Result.andThen_ok, List.map_toArray, List.map_cons, List.map_nil, hs, hx, hr]
  exact h g c w' h1 h2 h3 h4
end Go.Proofs.Ytajeledbmnndmaa

namespace Go.Proofs.Ytajeledbmnndmaa
set_option maxRecDepth 100000
def bndG : Nat → Nat
  | 0 => 1
  | 1 => 2
  | 2 => 4
  | 3 => 32
  | 4 => 2048
  | 5 => 8388608
  | _ => 140737488355328
/-- a row without common divisor, or no entry but 0 -/
def primR (n : Nat) (o : Nat → Int) : Prop := ∀ d : Nat, (∀ i, i < n → (d : Int) ∣ o i) → d = 1 ∨ ∀ i, i < n → o i = 0
/-- column c is removed from row a by row b -/
def RedP (n : Nat) (a b : Nat → Int) (c : Nat) (o : Nat → Int) : Prop := (∃ g : Nat, 1 ≤ g ∧ ∀ i, i < n → (g : Int) * o i = a i * b c - b i * a c) ∧ primR n o
structure GsS (A : Nat → Nat → Int) (n c : Nat) (M : Nat → Nat → Int) : Prop where
  sol : ∀ w, kerV A n w → ∀ r, r < n → sumN (fun i => M r i * w i) n = 0
  los : ∀ w, (∀ r, r < n → sumN (fun i => M r i * w i) n = 0) → kerV A n w
  zero : ∀ r j, r < n → j < n → j < c → j ≠ r → M r j = 0
  piv : ∀ r, r < c → M r r ≠ 0
  bd : ∀ r i, r < n → i < n → (M r i).natAbs ≤ bndG c
  col : c ≤ 1 → c < n → ∀ r, r < n → (M r c).natAbs ≤ 1
  ini : c = 0 → ∀ r i, r < n → i < n → M r i = A i r
  prim : ∀ r, r < n → primR n (M r)
theorem one_of_dvd {d : Nat} {x : Int} (h : (d : Int) ∣ x) (hx : x = 1 ∨ x = -1) : d = 1 := by
  have h1 : d ∣ 1 := by
    rcases hx with rfl | rfl
    · exact Int.natCast_dvd_natCast.1 h
    · have := (Int.dvd_neg (a := (d : Int)) (b := 1)).1 h
      exact Int.natCast_dvd_natCast.1 this
  exact Nat.dvd_one.1 h1
theorem gs_start {A : Nat → Nat → Int} {n : Nat} (hA : SkT A n) : GsS A n 0 fun r i => A i r where
  sol := fun w h r hr => h r hr
  los := fun w h r hr => h r hr
  zero := fun r j _ _ h => absurd h (by omega)
  piv := fun r h => absurd h (by omega)
  bd := fun r i hr hi => by
    by_cases e : i = r
    · subst e; rw [hA.diag i hi]; decide
    · rcases hA.one i r hi hr e with h | h <;> rw [h] <;> decide
  col := fun _ hc r hr => by
    by_cases e : 0 = r
    · subst e; rw [hA.diag 0 hr]; decide
    · rcases hA.one 0 r hc hr e with h | h <;> rw [h] <;> decide
  ini := fun _ r i _ _ => rfl
  prim := fun r hr d h => by
    by_cases hn : n = 1
    · right
      intro i hi
      obtain rfl : i = r := by omega
      exact hA.diag i hi
    · left
      obtain ⟨i, hi, hir⟩ : ∃ i, i < n ∧ i ≠ r := by
        by_cases e : r = 0
        · exact ⟨1, by omega, by omega⟩
        · exact ⟨0, by omega, by omega⟩
      exact one_of_dvd (h i hi) (hA.one i r hi hr hir)
theorem red_sum {n c : Nat} {a b o : Nat → Int} {g : Nat} (h : ∀ i, i < n → (g : Int) * o i = a i * b c - b i * a c) (w : Nat → Int) :
    (g : Int) * sumN (fun i => o i * w i) n = b c * sumN (fun i => a i * w i) n - a c * sumN (fun i => b i * w i) n := by
  rw [← sumN_mul, ← sumN_mul, ← sumN_mul, ← sumN_sub]
  refine sumN_congr fun i hi => ?_
  rw [← Int.mul_assoc, h i hi, Int.sub_mul, ← Int.mul_assoc, ← Int.mul_assoc, Int.mul_comm (b c), Int.mul_comm (a c)]
theorem abs_le_of {g : Nat} {o z : Int} (hg : 1 ≤ g) (h : (g : Int) * o = z) {B : Nat} (hz : z.natAbs ≤ B) : o.natAbs ≤ B := by
  have h1 : g * o.natAbs = z.natAbs := by rw [← h, Int.natAbs_mul, Int.natAbs_natCast]
  have h2 : 1 * o.natAbs ≤ g * o.natAbs := Nat.mul_le_mul_right _ hg
  omega
theorem abs_det {x y z u : Int} {X Y Z U : Nat} (h1 : x.natAbs ≤ X) (h2 : y.natAbs ≤ Y) (h3 : z.natAbs ≤ Z) (h4 : u.natAbs ≤ U) : (x * y - z * u).natAbs ≤ X * Y + Z * U := by
  have e1 : (x * y).natAbs ≤ X * Y := by rw [Int.natAbs_mul]; exact Nat.mul_le_mul h1 h2
  have e2 : (z * u).natAbs ≤ Z * U := by rw [Int.natAbs_mul]; exact Nat.mul_le_mul h3 h4
  omega
theorem bnd_sq : ∀ c, c < 6 → 2 ≤ c → 2 * (bndG c * bndG c) ≤ bndG (c + 1) := by decide
theorem bnd_mono : ∀ c, c < 6 → 2 * bndG c ≤ bndG (c + 1) := by decide
theorem red_bd {A M : Nat → Nat → Int} {n c : Nat} (h : GsS A n c M) (hc : c + 1 < n) (h7 : n ≤ 7) {s p i : Nat} (hs : s < n) (hp : p < n) (hi : i < n) :
    (M s i * M p c - M p i * M s c).natAbs ≤ bndG (c + 1) := by
  by_cases h1 : c ≤ 1
  · have := abs_det (h.bd s i hs hi) (h.col h1 (by omega) p hp) (h.bd p i hp hi) (h.col h1 (by omega) s hs)
    have := bnd_mono c (by omega)
    omega
  · have := abs_det (h.bd s i hs hi) (h.bd p c hp (by omega)) (h.bd p i hp hi) (h.bd s c hs (by omega))
    have := bnd_sq c (by omega) (by omega)
    omega
theorem gs_step {A M M' : Nat → Nat → Int} {n c p : Nat} (hA : SkT A n) (h : GsS A n c M) (hc : c + 1 < n) (h7 : n ≤ 7) (hcp : c ≤ p) (hp : p < n) (hpc : M p c ≠ 0) (hfirst : ∀ q, c ≤ q → q < p → M q c = 0)
    (h1 : ∀ i, i < n → M' c i = M p i)
    (h2 : ∀ r, r < n → r ≠ c → (M (if r = p then c else r) c = 0 → ∀ i, i < n → M' r i = M (if r = p then c else r) i) ∧ (M (if r = p then c else r) c ≠ 0 → RedP n (M (if r = p then c else r)) (M p) c (M' r))) : GsS A n (c + 1) M' := by
  have hs : ∀ r, r < n → r ≠ c → ∃ s, s < n ∧ s = (if r = p then c else r) ∧ s ≠ p := fun r hr hrc => by
    by_cases e : r = p
    · exact ⟨c, by omega, by rw [if_pos e], by omega⟩
    · exact ⟨r, hr, by rw [if_neg e], e⟩
  refine ⟨?_, ?_, ?_, ?_, ?_, ?_, fun h => absurd h (by omega), ?_⟩
  · intro w hw r hr
    by_cases hrc : r = c
    · subst hrc
      rw [sumN_congr (g := fun i => M p i * w i) fun i hi => by rw [h1 i hi]]
      exact h.sol w hw p hp
    · obtain ⟨s, hsn, hse, -⟩ := hs r hr hrc
      obtain ⟨q1, q2⟩ := h2 r hr hrc
      rw [← hse] at q1 q2
      by_cases q : M s c = 0
      · rw [sumN_congr (g := fun i => M s i * w i) fun i hi => by rw [q1 q i hi]]
        exact h.sol w hw s hsn
      · obtain ⟨⟨g, hg, hgo⟩, -⟩ := q2 q
        have := red_sum hgo w
        rw [h.sol w hw s hsn, h.sol w hw p hp, Int.mul_zero, Int.mul_zero, Int.sub_zero] at this
        rcases Int.mul_eq_zero.1 this with e | e
        · omega
        · exact e
  · intro w hw
    have hpz : sumN (fun i => M p i * w i) n = 0 := by
      rw [← sumN_congr (f := fun i => M' c i * w i) fun i hi => by rw [h1 i hi]]
      exact hw c (by omega)
    refine h.los w fun t ht => ?_
    by_cases htp : t = p
    · subst htp; exact hpz
    · obtain ⟨r, hr, hrc, hrt⟩ : ∃ r, r < n ∧ r ≠ c ∧ t = (if r = p then c else r) := by
        by_cases e : t = c
        · exact ⟨p, hp, fun e2 => htp (by omega), by rw [if_pos rfl]; exact e⟩
        · exact ⟨t, ht, e, by rw [if_neg htp]⟩
      obtain ⟨q1, q2⟩ := h2 r hr hrc
      rw [← hrt] at q1 q2
      by_cases q : M t c = 0
      · rw [← sumN_congr (f := fun i => M' r i * w i) fun i hi => by rw [q1 q i hi]]
        exact hw r hr
      · obtain ⟨⟨g, hg, hgo⟩, -⟩ := q2 q
        have := red_sum hgo w
        rw [hw r hr, hpz, Int.mul_zero, Int.mul_zero, Int.sub_zero] at this
        rcases Int.mul_eq_zero.1 this.symm with e | e
        · exact absurd e hpc
        · exact e
  · intro r j hr hj hjc hjr
    by_cases hrc : r = c
    · subst hrc
      rw [h1 j hj]
      exact h.zero p j hp hj (by omega) (by omega)
    · obtain ⟨s, hsn, hse, hsp⟩ := hs r hr hrc
      obtain ⟨q1, q2⟩ := h2 r hr hrc
      rw [← hse] at q1 q2
      have hjs : j < c → M s j = 0 ∧ M p j = 0 := fun hj' => ⟨h.zero s j hsn hj hj' (by
        rw [hse]; split
        · omega
        · exact hjr), h.zero p j hp hj hj' (by omega)⟩
      by_cases q : M s c = 0
      · rw [q1 q j hj]
        by_cases e : j = c
        · subst e; exact q
        · exact (hjs (by omega)).1
      · obtain ⟨⟨g, hg, hgo⟩, -⟩ := q2 q
        have := hgo j hj
        have hz : M s j * M p c - M p j * M s c = 0 := by
          by_cases e : j = c
          · subst e; rw [Int.mul_comm]; omega
          · obtain ⟨e1, e2⟩ := hjs (by omega)
            rw [e1, e2]; simp
        rw [hz] at this
        rcases Int.mul_eq_zero.1 this with e | e
        · omega
        · exact e
  · intro r hr
    by_cases hrc : r = c
    · subst hrc
      rw [h1 r (by omega)]; exact hpc
    · obtain ⟨q1, q2⟩ := h2 r (by omega) hrc
      rw [if_neg (by omega)] at q1 q2
      have hp0 := h.piv r (by omega)
      by_cases q : M r c = 0
      · rw [q1 q r (by omega)]; exact hp0
      · obtain ⟨⟨g, hg, hgo⟩, -⟩ := q2 q
        have := hgo r (by omega)
        rw [h.zero p r hp (by omega) (by omega) (by omega), Int.zero_mul, Int.sub_zero] at this
        intro e
        rw [e, Int.mul_zero] at this
        rcases Int.mul_eq_zero.1 this.symm with e1 | e1
        · exact hp0 e1
        · exact hpc e1
  · intro r i hr hi
    have hmono := bnd_mono c (by omega)
    by_cases hrc : r = c
    · subst hrc
      rw [h1 i hi]
      have := h.bd p i hp hi
      omega
    · obtain ⟨s, hsn, hse, -⟩ := hs r hr hrc
      obtain ⟨q1, q2⟩ := h2 r hr hrc
      rw [← hse] at q1 q2
      by_cases q : M s c = 0
      · rw [q1 q i hi]
        have := h.bd s i hsn hi
        omega
      · obtain ⟨⟨g, hg, hgo⟩, -⟩ := q2 q
        exact abs_le_of hg (hgo i hi) (red_bd h hc h7 hsn hp hi)
  · intro hc1 _ r hr
    obtain rfl : c = 0 := by omega
    have hini := h.ini rfl
    have hp1 : p = 1 := by
      have a0 : p ≠ 0 := fun e => hpc (by subst e; rw [hini 0 0 hp hp]; exact hA.diag 0 hp)
      refine Nat.le_antisymm (Nat.le_of_not_lt fun h' => ?_) (by omega)
      have := hfirst 1 (by omega) h'
      rw [hini 1 0 (by omega) (by omega)] at this
      rcases hA.one 0 1 (by omega) (by omega) (by omega) with e | e <;> omega
    subst hp1
    have h11 : M 1 1 = 0 := by rw [hini 1 1 (by omega) (by omega)]; exact hA.diag 1 (by omega)
    by_cases hrc : r = 0
    · subst hrc
      rw [h1 1 (by omega), h11]; decide
    · obtain ⟨s, hsn, hse, -⟩ := hs r hr hrc
      obtain ⟨q1, q2⟩ := h2 r hr hrc
      rw [← hse] at q1 q2
      have hb := h.bd s 1 hsn (by omega)
      by_cases q : M s 0 = 0
      · rw [q1 q 1 (by omega)]; exact hb
      · obtain ⟨⟨g, hg, hgo⟩, -⟩ := q2 q
        have := hgo 1 (by omega)
        refine abs_le_of hg this ?_
        rw [h11, Int.zero_mul, Int.sub_zero, Int.natAbs_mul]
        have := Nat.mul_le_mul hb (h.col (by omega) (by omega) 1 (by omega))
        exact this
  · intro r hr
    by_cases hrc : r = c
    · subst hrc
      intro d hd
      rcases h.prim p hp d (fun i hi => by rw [← h1 i hi]; exact hd i hi) with e | e
      · exact .inl e
      · exact .inr fun i hi => by rw [h1 i hi]; exact e i hi
    · obtain ⟨s, hsn, hse, -⟩ := hs r hr hrc
      obtain ⟨q1, q2⟩ := h2 r hr hrc
      rw [← hse] at q1 q2
      by_cases q : M s c = 0
      · intro d hd
        rcases h.prim s hsn d (fun i hi => by rw [← q1 q i hi]; exact hd i hi) with e | e
        · exact .inl e
        · exact .inr fun i hi => by rw [q1 q i hi]; exact e i hi
      · exact (q2 q).2
def prodZ (f : Nat → Int) : Nat → Int
  | 0 => 1
  | k + 1 => prodZ f k * f k
theorem prod_nz {f : Nat → Int} : ∀ {k}, (∀ i, i < k → f i ≠ 0) → prodZ f k ≠ 0 := by
  intro k
  induction k with
  | zero => intro _; show (1 : Int) ≠ 0; decide
  | succ k ih =>
    intro h e
    rcases Int.mul_eq_zero.1 e with e | e
    · exact ih (fun i hi => h i (by omega)) e
    · exact h k (by omega) e
theorem prod_dvd {f : Nat → Int} {i : Nat} : ∀ {k}, i < k → ∃ q, f i * q = prodZ f k := by
  intro k
  induction k with
  | zero => intro h; omega
  | succ k ih =>
    intro h
    by_cases e : i = k
    · subst e; exact ⟨prodZ f i, Int.mul_comm _ _⟩
    · obtain ⟨q, hq⟩ := ih (by omega)
      exact ⟨q * f k, by rw [← Int.mul_assoc, hq]; rfl⟩
/-- there is a pivot in each column but the last one -/
theorem gs_piv {A M : Nat → Nat → Int} {n c : Nat} (hA : SkT A n) (h : GsS A n c M) (hc : c + 1 < n) : ∃ p, c ≤ p ∧ p < n ∧ M p c ≠ 0 := by
  refine Classical.byContradiction fun hno => ?_
  have hz : ∀ q, c ≤ q → q < n → M q c = 0 := fun q h1 h2 => Classical.byContradiction fun e => hno ⟨q, h1, h2, e⟩
  obtain ⟨P, hP⟩ : ∃ P, P = prodZ (fun r => M r r) c := ⟨_, rfl⟩
  have hP0 : P ≠ 0 := by rw [hP]; exact prod_nz fun i hi => h.piv i hi
  have hq : ∀ i, ∃ q, i < c → M i i * q = P := fun i => by
    by_cases hi : i < c
    · obtain ⟨q, hq⟩ := prod_dvd (f := fun r => M r r) hi
      exact ⟨q, fun _ => by rw [hP]; exact hq⟩
    · exact ⟨0, fun h => absurd h hi⟩
  obtain ⟨q, hq⟩ := Classical.axiomOfChoice hq
  have hw : kerV A n fun i => if i < c then -(M i c) * q i else if i = c then P else 0 := by
    refine h.los _ fun r hr => ?_
    by_cases hrc : r < c
    · rw [sumN_two (a := r) (b := c) hr (by omega) (by omega) (fun k hk h1 h2 => ?_)]
      · rw [if_pos hrc, if_neg (by omega), if_pos rfl]
        have := hq r hrc
        rw [Int.neg_mul, Int.mul_neg, ← Int.mul_assoc, Int.mul_comm (M r r), Int.mul_assoc, this]
        omega
      · by_cases e : k < c
        · rw [h.zero r k hr hk e h1, Int.zero_mul]
        · rw [if_neg e, if_neg h2, Int.mul_zero]
    · refine sumN_zero' fun k hk => ?_
      by_cases e : k < c
      · rw [h.zero r k hr hk e (by omega), Int.zero_mul]
      · rw [if_neg e]
        split
        · rename_i e2; subst e2; rw [hz r (by omega) hr, Int.zero_mul]
        · exact Int.mul_zero _
  have := ker_zero hA hw (a0 := n - 1) (by omega) (by rw [if_neg (by omega), if_neg (by omega)]) c (by omega)
  rw [if_neg (by omega), if_pos rfl] at this
  exact hP0 this
/-- behind the last pivot: each row tells one entry by the last one -/
theorem gs_end {A M : Nat → Nat → Int} {n : Nat} (hA : SkT A n) (hodd : n % 2 = 1) (h7 : n ≤ 7) (h : GsS A n (n - 1) M) :
    M (n - 1) (n - 1) = 0 ∧ ∀ r, r < n - 1 → M r r ≠ 0 ∧ M r r * pfV A n r = -(M r (n - 1)) * pfV A n (n - 1) ∧ (M r r) ∣ pfV A n (n - 1) ∧ (M r r).natAbs ≤ 15 ∧ (M r (n - 1)).natAbs ≤ 15 := by
  have hk := pf_ker hA hodd h7
  have hv := fun i (hi : i < n) => pfV_facts hA hodd h7 hi
  have hlast := hv (n - 1) (by omega)
  constructor
  · have h1 := h.sol _ hk (n - 1) (by omega)
    rw [sumN_one (a := n - 1) (by omega) fun k hk1 h2 => by rw [h.zero (n - 1) k (by omega) hk1 (by omega) h2, Int.zero_mul]] at h1
    rcases Int.mul_eq_zero.1 h1 with e | e
    · exact e
    · omega
  · intro r hr
    have hp := h.piv r hr
    have hvr := hv r (by omega)
    have h1 := h.sol _ hk r (by omega)
    rw [sumN_two (a := r) (b := n - 1) (by omega) (by omega) (by omega) fun k hk1 h2 h3 => by rw [h.zero r k (by omega) hk1 (by omega) h2, Int.zero_mul]] at h1
    have h2 : M r r * pfV A n r = -(M r (n - 1)) * pfV A n (n - 1) := by rw [Int.neg_mul]; omega
    have hcop : Nat.Coprime (M r r).natAbs (M r (n - 1)).natAbs := by
      rcases h.prim r (by omega) (Nat.gcd (M r r).natAbs (M r (n - 1)).natAbs) (fun i hi => by
        by_cases e1 : i = r
        · subst e1; exact Int.ofNat_dvd_left.2 (Nat.gcd_dvd_left _ _)
        · by_cases e2 : i = n - 1
          · subst e2; exact Int.ofNat_dvd_left.2 (Nat.gcd_dvd_right _ _)
          · rw [h.zero r i (by omega) hi (by omega) e1]; exact Int.dvd_zero _) with e | e
      · exact e
      · exact absurd (e r (by omega)) hp
    have habs : (M r r).natAbs * (pfV A n r).natAbs = (M r (n - 1)).natAbs * (pfV A n (n - 1)).natAbs := by
      have := congrArg Int.natAbs h2
      rwa [Int.natAbs_mul, Int.natAbs_mul, Int.natAbs_neg] at this
    have hd1 : (M r r).natAbs ∣ (pfV A n (n - 1)).natAbs := hcop.dvd_of_dvd_mul_left (habs ▸ Nat.dvd_mul_right _ _)
    have hd2 : (M r (n - 1)).natAbs ∣ (pfV A n r).natAbs := hcop.symm.dvd_of_dvd_mul_left (habs ▸ Nat.dvd_mul_right _ _)
    refine ⟨hp, h2, Int.natAbs_dvd_natAbs.1 hd1, ?_, ?_⟩
    · have := Nat.le_of_dvd (by omega) hd1; omega
    · have := Nat.le_of_dvd (by omega) hd2; omega
end Go.Proofs.Ytajeledbmnndmaa

namespace Go.Proofs.Ytajeledbmnndmaa
open Go.RowKit Go.Sort
set_option maxRecDepth 100000
def redX (xs ys : List Int) (c i : Nat) : Int := xs.getD i 0 * ys.getD c 0 - ys.getD i 0 * xs.getD c 0
def redO (xs ys : List Int) (c k : Nat) : List Int := (List.range k).map (redX xs ys c)
theorem redO_succ (xs ys : List Int) (c k : Nat) : redO xs ys c (k + 1) = redO xs ys c k ++ [redX xs ys c k] := by simp [redO, List.range_succ]
theorem redO_len (xs ys : List Int) (c k : Nat) : (redO xs ys c k).length = k := by simp [redO]
def gcdA (l : List Int) : Nat := l.foldl (fun g x => Nat.gcd g x.natAbs) 0
theorem gcdA_snoc (l : List Int) (x : Int) : gcdA (l ++ [x]) = Nat.gcd (gcdA l) x.natAbs := by simp [gcdA]
def redL (xs ys : List Int) (c : Nat) : List Int := if 1 < gcdA (redO xs ys c xs.length) then (redO xs ys c xs.length).map fun x => x.tdiv (gcdA (redO xs ys c xs.length)) else redO xs ys c xs.length
theorem redX_bd {xs ys : List Int} {c i : Nat} {B : Nat} (hx : ∀ j, (xs.getD j 0).natAbs ≤ B) (hy : ∀ j, (ys.getD j 0).natAbs ≤ B) : (xs.getD i 0 * ys.getD c 0).natAbs ≤ B * B ∧ (ys.getD i 0 * xs.getD c 0).natAbs ≤ B * B ∧ (redX xs ys c i).natAbs ≤ 2 * (B * B) := by
  have e1 : (xs.getD i 0 * ys.getD c 0).natAbs ≤ B * B := by rw [Int.natAbs_mul]; exact Nat.mul_le_mul (hx i) (hy c)
  have e2 : (ys.getD i 0 * xs.getD c 0).natAbs ≤ B * B := by rw [Int.natAbs_mul]; exact Nat.mul_le_mul (hy i) (hx c)
  refine ⟨e1, e2, ?_⟩
  unfold redX
  omega
theorem gcdA_le {B : Nat} : ∀ {l : List Int}, (∀ x ∈ l, x.natAbs ≤ B) → gcdA l ≤ B := by
  have : ∀ (l : List Int) (g : Nat), g ≤ B → (∀ x ∈ l, x.natAbs ≤ B) → l.foldl (fun g x => Nat.gcd g x.natAbs) g ≤ B := by
    intro l
    induction l with
    | nil => intro g h _; exact h
    | cons x l ih => intro g h hx; exact ih _ (gcd_le_bd h (hx x (by simp))) fun y hy => hx y (by simp [hy])
  intro l h
  exact this l 0 (Nat.zero_le _) h
theorem rd_cell0 {w : World} {g off c n : Nat} {L : List Int} (h : Rd w (.slice (some ⟨g, off, none⟩) n c) L) (hl : L.length = n) {i : Nat} (hi : i < n) : w.cell? ⟨g, off + i, none⟩ = some (.int .i64 (L.getD i 0)) := by
  obtain ⟨A', c', e, -, -, hx⟩ := h
  injection e with e1 _ _
  subst e1
  obtain ⟨g', off', e', -, hc⟩ := hx (by omega)
  injection e' with e'
  injection e' with e1 e2 _
  subst e1 e2
  exact hc i (by omega)
theorem tdiv_bd {x G : Int} (h1 : -140737488355328 ≤ x) (h2 : x ≤ 140737488355328) : -9223372036854775808 ≤ x.tdiv G ∧ x.tdiv G ≤ 9223372036854775807 := by
  have := Int.natAbs_tdiv_le_natAbs x G
  omega
set_option maxHeartbeats 4000000 in
theorem reduce_any (g1 o1 c1 g2 o2 c2 : Nat) (xs ys : List Int) (n c : Nat) (w : World) (hn : xs.length = n) (hm : ys.length = n) (hc : c < n) (h8 : n ≤ 8)
    (hx : Rd w (.slice (some ⟨g1, o1, none⟩) n c1) xs) (hy : Rd w (.slice (some ⟨g2, o2, none⟩) n c2) ys) (hbx : ∀ j, (xs.getD j 0).natAbs ≤ 8388608) (hby : ∀ j, (ys.getD j 0).natAbs ≤ 8388608) :
    Calls Try.prog 118 #[.slice (some ⟨g1, o1, none⟩) n c1, .slice (some ⟨g2, o2, none⟩) n c2, .int .i64 c] w fun e w' => ∃ A d, e = .returned (.slice A n d) ∧ Own w' w.heap.size (.slice A n d) (redL xs ys c) ∧ Below w.heap.size w w' := by
  have HX := Lib.hid hx
  have HY := Lib.hid hy
  have HLX := Lib.hid hn
  have HBX := Lib.hid (fun i => redX_bd (c := c) (i := i) hbx hby)
  have HEX := Lib.hid hbx
  have HEY := Lib.hid hby
  have HG2 : Hid (∀ k, gcdA (redO xs ys c k) ≤ 140737488355328) := Lib.hid fun k => gcdA_le fun x hx => by
    obtain ⟨j, -, rfl⟩ := List.mem_map.1 hx
    exact (HBX.out j).2.2
  have hcx := fun j (hj : j < n) => rd_cell0 hx hn hj
  have hcy := fun j (hj : j < n) => rd_cell0 hy hm hj
  have HCX := Lib.hid hcx
  have HCY := Lib.hid hcy
  have hgx : g1 < w.heap.size := World.block_lt_of_cell? w _ (hcx c hc)
  have hgy : g2 < w.heap.size := World.block_lt_of_cell? w _ (hcy c hc)
  have hO0 := Lib.hid (Own.lit w w.heap.size [] (Nat.le_refl _) (by simp))
  have hB0 := Lib.hid (below_alloc1 w (.cells #[] 3))
  clear hx hy hbx hby hn hm hcx hcy
  go_enter Try.func118, Try.ntmps118
  go_wp2
  go_loopw [7, 8, 15] (fun t7 t8 t15 wr => ∃ (k G : Nat) (v : Value), k ≤ n ∧ t15 = .int .i64 k ∧ t8 = .int .i64 G ∧ v = t7 ∧ Hid (G = gcdA (redO xs ys c k)) ∧ Hid (Own wr w.heap.size v (redO xs ys c k)) ∧ Hid (Below w.heap.size w wr)) (fun _ _ t15 _ => n - (intOf t15).toNat)
  case atStart => exact ⟨0, 0, _, by omega, rfl, rfl, rfl, Lib.hid rfl, hO0, hB0⟩
  case round =>
    obtain ⟨wo, rfl⟩ : ∃ x, x = wr := ⟨_, rfl⟩
    obtain ⟨k, G, t7, hk, rfl, rfl, rfl, HG, HO, HB⟩ := hrel
    clear hO0 hB0
    by_cases hlt : k < n
    · as_aux_lemma =>
      have HSN := Lib.hid (redO_succ xs ys c k)
      have HGN := Lib.hid (gcdA_snoc (redO xs ys c k) (redX xs ys c k))
      have hG := HG2.out k
      rw [← HG.out] at HGN hG
      obtain ⟨b1, b2, b3⟩ := HBX.out k
      have zx := cell_regrown ((HB.out.cell (p := ⟨g1, o1 + k, none⟩) hgx).trans (HCX.out k hlt))
      have zy := cell_regrown ((HB.out.cell (p := ⟨g2, o2 + k, none⟩) hgy).trans (HCY.out k hlt))
      have zxc := cell_regrown ((HB.out.cell (p := ⟨g1, o1 + c, none⟩) hgx).trans (HCX.out c hc))
      have zyc := cell_regrown ((HB.out.cell (p := ⟨g2, o2 + c, none⟩) hgy).trans (HCY.out c hc))
      have HRX : Hid (redX xs ys c k = xs.getD k 0 * ys.getD c 0 - ys.getD k 0 * xs.getD c 0) := Lib.hid rfl
      generalize redX xs ys c k = x at *
      have hol : (redO xs ys c k).length ≤ 1099511627776 := by rw [redO_len]; omega
      generalize redO xs ys c k = o at *
      generalize xs.getD k 0 = ai at *
      generalize xs.getD c 0 = ac at *
      generalize ys.getD k 0 = bi at *
      generalize ys.getD c 0 = bc at *
      have u1 : IntKind.i64.wrap (ai * bc) = ai * bc := IntWalk.i64_in _ (by omega)
      have u2 : IntKind.i64.wrap (bi * ac) = bi * ac := IntWalk.i64_in _ (by omega)
      have u3 : IntKind.i64.wrap (ai * bc - bi * ac) = x := by rw [← HRX.out]; exact IntWalk.i64_in _ (by omega)
      have hx1 : -140737488355328 ≤ x ∧ x ≤ 140737488355328 := by omega
      clear b1 b2 b3 HRX
      go_wp2_with fail
      refine wp_region_below (by kernel_rfl) (by kernel_rfl) ?_
      repeat (go_big_quiet_step (first | fail))
      refine wpQuiet_nil ?_
      intro wq hbq0
      have HBq := Lib.hid (Below.then HB.out hbq0)
      have HOq := Lib.hid (HO.out.below hbq0)
      clear hbq0 zx zy zxc zyc HB HO u1 u2
      obtain ⟨N, hN⟩ : ∃ N, N = x.natAbs := ⟨_, rfl⟩
      rw [← hN] at HGN
      have hmax : max x (-x) = (N : Int) := by omega
      have uneg : IntKind.i64.wrap (-x) = -x := IntWalk.i64_in _ (by omega)
      have hNb : N ≤ 4611686018427387904 := by omega
      have hGb : G ≤ 4611686018427387904 := by omega
      have hsz := HBq.out.size
      have hfo := HOq.out
      rw [← HSN.out] at HGN
      have hpos : (0 ≤ x ∧ -x ≤ x ∧ ¬ x < -x ∧ x = (N : Int)) ∨ (x < 0 ∧ ¬ -x ≤ x ∧ x < -x ∧ -x = (N : Int)) := by omega
      clear hN hx1 hG u3
      rcases hpos with ⟨p1, p2, p3, p4⟩ | ⟨p1, p2, p3, p4⟩
      · have LG : Hid (∀ W, Calls Try.prog 119 #[.int .i64 G, .int .i64 x] W fun e w' => e = .returned (.int .i64 (Nat.gcd G N)) ∧ W = w') := Lib.hid fun W => by
          have := l10Gcd_any G N W hGb hNb
          rw [← p4] at this
          exact this
        have LM : Hid (∀ W, Calls Try.prog 119 #[.int .i64 G, .int .i64 (max x (-x))] W fun e w' => e = .returned (.int .i64 (Nat.gcd G N)) ∧ W = w') := Lib.hid fun W => by
          have := l10Gcd_any G N W hGb hNb
          rw [← hmax] at this
          exact this
        clear p4 hmax
        go_wp2_with (first
          | (at_builtin; refine wp_append1 wq rfl (.tmp 37) (.tmp 39) rfl w.heap.size _ o x rfl hfo (by simp [Act.eval]) hol hsz ?_; intro v' w7 hown1 hg1; have HO7 := Lib.hid hown1; have HB7 := Lib.hid (below_append HBq.out hg1 hfo (Nat.le_refl _) hsz); clear hown1 hg1)
          | (go_at_call 119; first | (with_reducible refine (LG.out _).mono ?_) | (with_reducible refine (LM.out _).mono ?_); rintro e wz ⟨rfl, rfl⟩))
        go_roundw
        case rel => exact ⟨k + 1, Nat.gcd G N, _, by omega, by go_num, rfl, rfl, Lib.hid HGN.out.symm, by rw [HSN.out]; exact HO7, HB7⟩
        case measure => simp [intOf]; omega
      · have LG : Hid (∀ W, Calls Try.prog 119 #[.int .i64 G, .int .i64 (-x)] W fun e w' => e = .returned (.int .i64 (Nat.gcd G N)) ∧ W = w') := Lib.hid fun W => by
          have := l10Gcd_any G N W hGb hNb
          rw [← p4] at this
          exact this
        have LM : Hid (∀ W, Calls Try.prog 119 #[.int .i64 G, .int .i64 (max x (-x))] W fun e w' => e = .returned (.int .i64 (Nat.gcd G N)) ∧ W = w') := Lib.hid fun W => by
          have := l10Gcd_any G N W hGb hNb
          rw [← hmax] at this
          exact this
        clear p4 hmax
        go_wp2_with (first
          | (at_builtin; refine wp_append1 wq rfl (.tmp 37) (.tmp 39) rfl w.heap.size _ o x rfl hfo (by simp [Act.eval]) hol hsz ?_; intro v' w7 hown1 hg1; have HO7 := Lib.hid hown1; have HB7 := Lib.hid (below_append HBq.out hg1 hfo (Nat.le_refl _) hsz); clear hown1 hg1)
          | (go_at_call 119; first | (with_reducible refine (LG.out _).mono ?_) | (with_reducible refine (LM.out _).mono ?_); rintro e wz ⟨rfl, rfl⟩))
        go_roundw
        case rel => exact ⟨k + 1, Nat.gcd G N, _, by omega, by go_num, rfl, rfl, Lib.hid HGN.out.symm, by rw [HSN.out]; exact HO7, HB7⟩
        case measure => simp [intOf]; omega
    · as_aux_lemma =>
      obtain rfl : k = n := by omega
      have HRL : Hid (redL xs ys c = if 1 < G then (redO xs ys c k).map (fun x => x.tdiv G) else redO xs ys c k) := Lib.hid (by
        unfold redL; rw [HLX.out, ← HG.out])
      have hG := HG2.out k
      rw [← HG.out] at hG
      have HOL := Lib.hid (redO_len xs ys c k)
      have HOB := Lib.hid (fun j => (show -140737488355328 ≤ (redO xs ys c k).getD j 0 ∧ (redO xs ys c k).getD j 0 ≤ 140737488355328 from by
        by_cases hj : j < k
        · have e : (redO xs ys c k).getD j 0 = redX xs ys c j := by simp [redO, hj]
          have := (HBX.out j).2.2
          rw [e]; omega
        · have e : (redO xs ys c k).getD j 0 = 0 := by simp [redO, hj]
          rw [e]; omega))
      clear HG
      generalize redO xs ys c k = o at *
      have hk0 : 0 < k := by omega
      obtain ⟨g, d, rfl, hbg, hdm, hkd, -, -⟩ := HO.out.at_ HOL.out hk0
      unfold maxLen at hdm
      by_cases h1 : 1 < G
      · rw [if_pos h1] at HRL
        have d1 : (1 : Int) < (G : Int) := by omega
        have d2 : (G : Int) ≠ 0 := by omega
        go_wp2
        go_loopw [50] (fun t50 wr => ∃ (j : Nat), j ≤ k ∧ t50 = .int .i64 j ∧ Hid (Own wr w.heap.size (.slice (some ⟨g, 0, none⟩) k d) ((o.map fun x => x.tdiv G).take j ++ o.drop j)) ∧ Hid (Below w.heap.size w wr)) (fun t50 _ => k - (intOf t50).toNat)
        case atStart => exact ⟨0, by omega, rfl, by simpa using HO, HB⟩
        case round =>
          obtain ⟨wi, rfl⟩ : ∃ x, x = wr := ⟨_, rfl⟩
          obtain ⟨j, hj, rfl, HOi, HBi⟩ := hrel
          have HLi : Hid (((o.map fun x => x.tdiv G).take j ++ o.drop j).length = k) := Lib.hid (by
            rw [List.length_append, List.length_take, List.length_map, List.length_drop, HOL.out]; omega)
          by_cases hltj : j < k
          · obtain ⟨hc1, hc2⟩ := HOi.out.at1 HLi.out hk0
            have z0 := hc1 j hltj
            have f0 := hc2 j
            have hg0 : ((o.map fun x => x.tdiv G).take j ++ o.drop j).getD j 0 = o.getD j 0 := by
              rw [List.getD_eq_getElem?_getD, List.getElem?_append_right (by rw [List.length_take, List.length_map, HOL.out]; omega), List.length_take, List.length_map, HOL.out, Nat.min_eq_left (by omega), Nat.sub_self, List.getElem?_drop, Nat.add_zero, ← List.getD_eq_getElem?_getD]
            rw [hg0] at z0
            have hs := HOi.out.set_ HLi.out j ((o.getD j 0).tdiv G)
            rw [set_map_take (fun x => x.tdiv (G : Int)) o j (by rw [HOL.out]; exact hltj)] at hs
            have HSO := Lib.hid hs.1
            have HSB := Lib.hid (HBi.out.grown hs.2 HBi.out.size (fun q e => by injection e with e; omega))
            have hb := HOB.out j
            generalize o.getD j 0 = x at *
            have u1 : IntKind.i64.wrap (x.tdiv (G : Int)) = x.tdiv (G : Int) := IntWalk.i64_in _ (tdiv_bd hb.1 hb.2)
            clear hs hg0 hc1 hc2
            go_wp2
            go_roundw
            case rel => exact ⟨j + 1, by omega, by go_num, HSO, HSB⟩
            case measure => simp [intOf]; omega
          · obtain rfl : j = k := by omega
            have HF : Hid (Own wi w.heap.size (.slice (some ⟨g, 0, none⟩) j d) (redL xs ys c)) := Lib.hid (by
              have := HOi.out
              rw [List.drop_of_length_le (by rw [HOL.out]; exact Nat.le_refl _), List.append_nil, List.take_of_length_le (by rw [List.length_map, HOL.out]; exact Nat.le_refl _), ← HRL.out] at this
              exact this)
            go_wp2
            go_ret
            exact ⟨_, _, rfl, HF.out, HBi.out⟩
      · rw [if_neg h1] at HRL
        have d1 : ¬ (1 : Int) < (G : Int) := by omega
        rw [← HRL.out] at HO
        go_wp2
        go_loopw [50] (fun t50 wr => ∃ (j : Nat), j ≤ k ∧ t50 = .int .i64 j ∧ Hid (wr = wo)) (fun t50 _ => k - (intOf t50).toNat)
        case atStart => exact ⟨0, by omega, rfl, Lib.hid rfl⟩
        case round =>
          obtain ⟨wi, rfl⟩ : ∃ x, x = wr := ⟨_, rfl⟩
          obtain ⟨j, hj, rfl, HW⟩ := hrel
          by_cases hltj : j < k
          · go_wp2
            go_roundw
            case rel => exact ⟨j + 1, by omega, by go_num, HW⟩
            case measure => simp [intOf]; omega
          · obtain rfl : j = k := by omega
            go_wp2
            go_ret
            exact ⟨_, _, rfl, by rw [HW.out]; exact HO.out, by rw [HW.out]; exact HB.out⟩
end Go.Proofs.Ytajeledbmnndmaa

namespace Go.Proofs.Ytajeledbmnndmaa
set_option maxRecDepth 100000
theorem gcdA_dvd : ∀ {l : List Int} {x : Int}, x ∈ l → gcdA l ∣ x.natAbs := by
  have : ∀ (l : List Int) (g : Nat), l.foldl (fun g x => Nat.gcd g x.natAbs) g ∣ g ∧ ∀ x ∈ l, l.foldl (fun g x => Nat.gcd g x.natAbs) g ∣ x.natAbs := by
    intro l
    induction l with
    | nil => intro g; exact ⟨Nat.dvd_refl _, fun x h => by cases h⟩
    | cons y l ih =>
      intro g
      obtain ⟨h1, h2⟩ := ih (Nat.gcd g y.natAbs)
      refine ⟨Nat.dvd_trans h1 (Nat.gcd_dvd_left _ _), fun x hx => ?_⟩
      rw [List.mem_cons] at hx
      rcases hx with rfl | hx
      · exact Nat.dvd_trans h1 (Nat.gcd_dvd_right _ _)
      · exact h2 x hx
  intro l x hx
  exact (this l 0).2 x hx
theorem gcdA_great {d : Nat} : ∀ {l : List Int}, (∀ x ∈ l, d ∣ x.natAbs) → d ∣ gcdA l := by
  have : ∀ (l : List Int) (g : Nat), d ∣ g → (∀ x ∈ l, d ∣ x.natAbs) → d ∣ l.foldl (fun g x => Nat.gcd g x.natAbs) g := by
    intro l
    induction l with
    | nil => intro g h _; exact h
    | cons y l ih => intro g h hx; exact ih _ (Nat.dvd_gcd h (hx y (by simp))) fun x hx' => hx x (by simp [hx'])
  intro l h
  exact this l 0 (Nat.dvd_zero _) h
theorem redL_len (xs ys : List Int) (c : Nat) : (redL xs ys c).length = xs.length := by
  unfold redL
  split <;> simp [redO_len]
theorem redL_P {xs ys : List Int} {n c : Nat} (hn : xs.length = n) : RedP n (fun i => xs.getD i 0) (fun i => ys.getD i 0) c (fun i => (redL xs ys c).getD i 0) := by
  obtain ⟨o, ho⟩ : ∃ o, o = redO xs ys c n := ⟨_, rfl⟩
  have hol : o.length = n := by rw [ho]; exact redO_len _ _ _ _
  have hoi : ∀ i, i < n → o.getD i 0 = xs.getD i 0 * ys.getD c 0 - ys.getD i 0 * xs.getD c 0 := fun i hi => by rw [ho]; simp [redO, hi, redX]
  have hmem : ∀ i, i < n → o.getD i 0 ∈ o := fun i hi => by
    have e : o.getD i 0 = o[i]'(by omega) := by simp [show i < o.length by omega]
    rw [e]; exact List.getElem_mem _
  have hall : ∀ x ∈ o, ∃ i, i < n ∧ x = o.getD i 0 := fun x hx => by
    obtain ⟨i, hi, rfl⟩ := List.getElem_of_mem hx
    exact ⟨i, by omega, by simp [hi]⟩
  have hdv : ∀ i, i < n → ((gcdA o : Nat) : Int) ∣ o.getD i 0 := fun i hi => Int.ofNat_dvd_left.2 (gcdA_dvd (hmem i hi))
  have hR : redL xs ys c = if 1 < gcdA o then o.map fun x => x.tdiv (gcdA o) else o := by unfold redL; rw [hn, ← ho]
  by_cases h1 : 1 < gcdA o
  · have hRi : ∀ i, i < n → (gcdA o : Int) * (redL xs ys c).getD i 0 = o.getD i 0 := fun i hi => by
      have e : (redL xs ys c).getD i 0 = (o.getD i 0).tdiv (gcdA o) := by rw [hR, if_pos h1]; simp [show i < o.length by omega]
      rw [e]
      exact Int.mul_tdiv_cancel' (hdv i hi)
    refine ⟨⟨gcdA o, by omega, fun i hi => by rw [← hoi i hi]; exact hRi i hi⟩, fun d hd => .inl ?_⟩
    have hgd : gcdA o * d ∣ gcdA o := gcdA_great fun x hx => by
      obtain ⟨i, hi, rfl⟩ := hall x hx
      obtain ⟨q, hq⟩ := hd i hi
      dsimp only at hq
      have : ((gcdA o * d : Nat) : Int) ∣ o.getD i 0 := ⟨q, by rw [← hRi i hi, hq, Int.natCast_mul, Int.mul_assoc]⟩
      exact Int.ofNat_dvd_left.1 this
    have := Nat.le_of_dvd (by omega) hgd
    have h0 : d ≠ 0 := fun e => by subst e; rw [Nat.mul_zero] at hgd; have := Nat.eq_zero_of_zero_dvd hgd; omega
    refine Classical.byContradiction fun hne => ?_
    have : gcdA o * 2 ≤ gcdA o * d := Nat.mul_le_mul_left _ (by omega)
    omega
  · have hRi : ∀ i, i < n → (redL xs ys c).getD i 0 = o.getD i 0 := fun i _ => by rw [hR, if_neg h1]
    refine ⟨⟨1, by omega, fun i hi => by dsimp only; rw [hRi i hi, hoi i hi]; omega⟩, fun d hd => ?_⟩
    by_cases h0 : gcdA o = 0
    · right
      intro i hi
      have := hdv i hi
      rw [h0] at this
      dsimp only
      rw [hRi i hi]
      exact Int.zero_dvd.1 this
    · left
      have hgd : d ∣ gcdA o := gcdA_great fun x hx => by
        obtain ⟨i, hi, rfl⟩ := hall x hx
        have := hd i hi
        dsimp only at this
        rw [hRi i hi] at this
        exact Int.ofNat_dvd_left.1 this
      have := Nat.le_of_dvd (by omega) hgd
      have hd0 : d ≠ 0 := fun e => by subst e; have := Nat.eq_zero_of_zero_dvd hgd; omega
      omega
end Go.Proofs.Ytajeledbmnndmaa

namespace Go.Proofs.Ytajeledbmnndmaa
open Go.RowKit Go.Sort
set_option maxRecDepth 100000
theorem rows_info : (Try.prog.info? 22).map (fun i => (i.zero, i.size, i.bytes)) = some (some (.slice none 0 0), 1, 24) := by kernel_rfl
theorem ownsRow_below {w w' : World} {base size n : Nat} {e : TypeId} {v : Value} {xs : List Value} (h : w.ownsRow base e size v n xs) (hb : Below w.heap.size w w') : w'.ownsRow base e size v n xs := by
  refine ⟨h.1, ?_⟩
  rcases h.2 with h0 | ⟨g, cap, cur, hv, hg, hh, r⟩
  · exact .inl h0
  · exact .inr ⟨g, cap, cur, hv, hg, by rw [hb.block g (Array.getElem?_eq_some_iff.1 hh).1]; exact hh, r⟩
theorem ownsRow_mono {w : World} {base b' size n : Nat} {e : TypeId} {v : Value} {xs : List Value} (h : w.ownsRow base e size v n xs) (hb : b' ≤ base) : w.ownsRow b' e size v n xs := by
  refine ⟨h.1, ?_⟩
  rcases h.2 with h0 | ⟨g, cap, cur, hv, hg, r⟩
  · exact .inl h0
  · exact .inr ⟨g, cap, cur, hv, by omega, r⟩
/-- rows of different element types lie in different blocks -/
theorem types_part {w : World} {b1 b2 s1 s2 n1 n2 : Nat} {e1 e2 : TypeId} {v1 v2 : Value} {x1 x2 : List Value} (h1 : w.ownsRow b1 e1 s1 v1 n1 x1) (h2 : w.ownsRow b2 e2 s2 v2 n2 x2) (hne : e1 ≠ e2) : v1.ownBlock = none ∨ v1.ownBlock ≠ v2.ownBlock := by
  rcases h1.2 with ⟨rfl, _⟩ | ⟨g1, c1, cur1, rfl, _, hg1, _⟩
  · exact .inl rfl
  · right
    rcases h2.2 with ⟨rfl, _⟩ | ⟨g2, c2, cur2, rfl, _, hg2, _⟩
    · simp [Value.ownBlock]
    · intro e
      simp only [Value.ownBlock, Option.some.injEq] at e
      subst e
      rw [hg1] at hg2
      simp only [Option.some.injEq, Obj.cells.injEq] at hg2
      exact hne hg2.2.1
theorem apart_symm' {a b : Option Nat} (h : a = none ∨ a ≠ b) : b = none ∨ b ≠ a := by
  rcases h with h | h
  · subst h; cases b <;> simp
  · exact .inr (Ne.symm h)
def OwnRowsU (w : World) (base : Nat) (v : Value) (us : List Value) (rows : List (List Int)) : Prop :=
  us.length = rows.length ∧ w.ownsRow base 22 1 v rows.length us ∧ (∀ k, k < rows.length → Own w base (us.getD k (.slice none 0 0)) (rows.getD k [])) ∧
    ∀ i j, i < j → j < rows.length → (us.getD i (.slice none 0 0)).ownBlock = none ∨ (us.getD i (.slice none 0 0)).ownBlock ≠ (us.getD j (.slice none 0 0)).ownBlock
def OwnRows (w : World) (base : Nat) (v : Value) (rows : List (List Int)) : Prop := ∃ us : List Value, OwnRowsU w base v us rows
theorem OwnRows.nil_ (w : World) (base : Nat) : OwnRows w base (.slice none 0 0) [] := ⟨[], rfl, World.ownsRow_nil _ _ _ _, fun k h => absurd h (by simp), fun i j _ h => absurd h (by simp)⟩
theorem OwnRows.lit0 (w : World) (base : Nat) (hb : base ≤ w.heap.size) : OwnRows (w.alloc (.cells #[] 22)) base (.slice (some ⟨w.heap.size, 0, none⟩) 0 0) [] := by
  have := World.ownsRow_lit (e := 22) (size := 1) w #[] 0 hb (by unfold maxLen; omega) (by simp)
  exact ⟨[], rfl, by simpa using this, fun k h => absurd h (by simp), fun i j _ h => absurd h (by simp)⟩
theorem OwnRowsU.below {w w' : World} {base : Nat} {v : Value} {us : List Value} {rows : List (List Int)} (h : OwnRowsU w base v us rows) (hb : Below w.heap.size w w') : OwnRowsU w' base v us rows := by
  obtain ⟨hl, ho, hr, hd⟩ := h
  exact ⟨hl, ownsRow_below ho hb, fun k hk => (hr k hk).below hb, hd⟩
theorem OwnRows.below {w w' : World} {base : Nat} {v : Value} {rows : List (List Int)} (h : OwnRows w base v rows) (hb : Below w.heap.size w w') : OwnRows w' base v rows := by
  obtain ⟨us, h⟩ := h
  exact ⟨us, h.below hb⟩
theorem OwnRows.mono {w : World} {base b' : Nat} {v : Value} {rows : List (List Int)} (h : OwnRows w base v rows) (hb : b' ≤ base) : OwnRows w b' v rows := by
  obtain ⟨us, hl, ho, hr, hd⟩ := h
  exact ⟨us, hl, ownsRow_mono ho hb, fun k hk => (hr k hk).mono hb, hd⟩
/-- a change of one block that is not among these rows: one that is older than all of them -/
theorem OwnRows.kept_lo {w w' : World} {base : Nat} {v : Value} {rows : List (List Int)} (h : OwnRows w base v rows) {row : Option Nat} (hg : w.grownBy w' row) (hlt : ∀ g, row = some g → g < base) : OwnRows w' base v rows := by
  obtain ⟨us, hl, ho, hr, hd⟩ := h
  have key : ∀ {u : Value}, (∀ k, u.ownBlock = some k → base ≤ k ∧ k < w.heap.size) → u.ownBlock = none ∨ u.ownBlock ≠ row := by
    intro u hu
    rcases q : u.ownBlock with _ | k
    · exact .inl rfl
    · right
      intro e
      have := (hu k q).1
      have := hlt k e.symm
      omega
  exact ⟨us, hl, World.ownsRow.kept ho hg (key (World.ownsRow.lt ho)), fun k hk => (hr k hk).kept hg (key (hr k hk).lt), hd⟩
theorem OwnRows.lt {w : World} {base : Nat} {v : Value} {rows : List (List Int)} (h : OwnRows w base v rows) : ∀ k, v.ownBlock = some k → base ≤ k ∧ k < w.heap.size := by
  obtain ⟨us, hl, ho, hr, hd⟩ := h
  exact World.ownsRow.lt ho
/-- a row is changed in place -/
theorem OwnRowsU.row {w w' : World} {base : Nat} {v : Value} {us : List Value} {rows : List (List Int)} (h : OwnRowsU w base v us rows) {i : Nat} {ys : List Int} (hi : i < rows.length)
    (ho' : Own w' base (us.getD i (.slice none 0 0)) ys) (hg : w.grownBy w' (us.getD i (.slice none 0 0)).ownBlock) : OwnRowsU w' base v us (rows.set i ys) := by
  obtain ⟨hl, ho, hr, hd⟩ := h
  refine ⟨by simp [hl], ?_, fun k hk => ?_, fun a b hab hb => hd a b hab (by simpa using hb)⟩
  · rw [List.length_set]
    exact World.ownsRow.kept ho hg (apart_symm' (types_part (hr i hi) ho (by decide)))
  · rw [List.length_set] at hk
    by_cases hik : i = k
    · subst hik
      rw [show (rows.set i ys).getD i [] = ys by simp [List.getD_eq_getElem?_getD, hk]]
      exact ho'
    · rw [show (rows.set i ys).getD k [] = rows.getD k [] by simp [List.getD_eq_getElem?_getD, List.getElem?_set_ne hik]]
      refine (hr k hk).kept hg ?_
      rcases Nat.lt_or_gt_of_ne hik with h1 | h1
      · exact apart_symm' (hd i k h1 hk)
      · exact hd k i h1 hi
theorem OwnRows.form {w : World} {base : Nat} {v : Value} {rows : List (List Int)} (h : OwnRows w base v rows) : ∃ A c, v = .slice A rows.length c ∧ c ≤ maxLen ∧ rows.length ≤ c ∧
    (0 < rows.length → ∃ g, A = some ⟨g, 0, none⟩ ∧ g < w.heap.size ∧ ∀ k, k < rows.length → ∃ (B : Option Addr) (d : Nat), w.cell? ⟨g, k, none⟩ = some (.slice B (rows.getD k []).length d) ∧ Own w base (.slice B (rows.getD k []).length d) (rows.getD k [])) := by
  obtain ⟨us, hl, ho, hr, -⟩ := h
  have hlt := World.ownsRow.lt ho
  have hc := fun g hg => World.ownsRow.cells ho (g := g) hg
  rcases ho.2 with ⟨rfl, e⟩ | ⟨g, cap, cur, rfl, hb, hg, hle, hm, _⟩
  · exact ⟨none, 0, by rw [e], by unfold maxLen; omega, by omega, fun h => absurd h (by omega)⟩
  · refine ⟨_, cap, rfl, hm, hle, fun _ => ⟨g, rfl, (hlt g rfl).2, fun k hk => ?_⟩⟩
    have h1 := hc g rfl k (us.getD k (.slice none 0 0)) (by simp [show k < us.length by omega])
    rw [Addr.add_lit, Nat.zero_add] at h1
    have h2 := hr k hk
    obtain ⟨B, d, e, _⟩ := h2.form
    rw [e] at h1 h2
    exact ⟨B, d, h1, h2⟩
def RdRows (w : World) (v : Value) (rows : List (List Int)) : Prop := ∃ A c, v = .slice A rows.length c ∧ c ≤ maxLen ∧ rows.length ≤ c ∧
    (0 < rows.length → ∃ g, A = some ⟨g, 0, none⟩ ∧ g < w.heap.size ∧ ∀ k, k < rows.length → ∃ u, w.cell? ⟨g, k, none⟩ = some u ∧ Rd w u (rows.getD k []))
theorem OwnRows.rdr {w : World} {base : Nat} {v : Value} {rows : List (List Int)} (h : OwnRows w base v rows) : RdRows w v rows := by
  obtain ⟨A, c, rfl, hc, hl, hx⟩ := h.form
  refine ⟨A, c, rfl, hc, hl, fun h0 => ?_⟩
  obtain ⟨g, rfl, hg, hk⟩ := hx h0
  refine ⟨g, rfl, hg, fun k hkl => ?_⟩
  obtain ⟨B, d, h1, h2⟩ := hk k hkl
  exact ⟨_, h1, h2.rd⟩
theorem RdRows.below {w w' : World} {v : Value} {rows : List (List Int)} (h : RdRows w v rows) (hb : Below w.heap.size w w') : RdRows w' v rows := by
  obtain ⟨A, c, rfl, hc, hl, hx⟩ := h
  refine ⟨A, c, rfl, hc, hl, fun h0 => ?_⟩
  obtain ⟨g, rfl, hg, hk⟩ := hx h0
  refine ⟨g, rfl, Nat.lt_of_lt_of_le hg hb.size, fun k hkl => ?_⟩
  obtain ⟨u, h1, h2⟩ := hk k hkl
  exact ⟨u, by rw [hb.cell (p := ⟨g, k, none⟩) hg]; exact h1, h2.below hb⟩
theorem wp_append1V {ops : Array Oper} {rest : List Oper} {o : Oper} {a : Act} {Q : Exit → Act → World → Prop} (w : World) (hgd : o.guard = none) (s x : Operand)
    (ho : o.op = .call { callee := .builtin .append, args := #[s, x], argTypes := #[53, 53] })
    (base : Nat) (v : Value) (rows : List (List Int)) (u : Value) (xs : List Int) (w0 : World) (hs : a.eval s = v) (hown0 : OwnRows w0 base v rows) (hb0 : Below w0.heap.size w0 w) (hu0 : Own w w0.heap.size u xs) (hbase0 : base ≤ w0.heap.size) (hx : a.eval x = .slice (some ⟨w.heap.size, 0, none⟩) 1 1)
    (hlen : rows.length ≤ 1048576)
    (h : ∀ v' w', OwnRows w' base v' (rows ++ [xs]) → w.grownBy w' v.ownBlock → wpList Try.prog ops Q rest (a.put o.dst v') w') :
    wpList Try.prog ops Q (o :: rest) a (w.alloc (.cells #[u] 22)) := by
  obtain ⟨i0, hi, hz0, hz1, hz2⟩ := info_parts rows_info
  have hu := hu0.mono hbase0
  have hbase : base ≤ w.heap.size := Nat.le_trans hbase0 hb0.size
  obtain ⟨us, hown0⟩ := hown0
  have hlt0 : ∀ k, k < rows.length → ∀ g, (us.getD k (.slice none 0 0)).ownBlock = some g → g < w0.heap.size := fun k hk g hg => ((hown0.2.2.1 k hk).lt g hg).2
  obtain ⟨hl, hor, hr, hd⟩ := hown0.below hb0
  have hor' : (w.alloc (.cells #[u] 22)).ownsRow base 22 1 v rows.length us := World.ownsRow.alloc hor _
  refine wpList_append_own _ hgd s x 53 ho base 22 i0 (.slice none 0 0) 1 24 Try.underlying53 hi hz0 hz1 hz2 rfl (by decide) v rows.length us hs hor' ⟨w.heap.size, 0, none⟩ 1 1 [u] hx rfl ?_ ?_ ?_ ?_ ?_ ?_
  · intro j y hj
    match j, hj with
    | 0, hj => simp at hj; subst hj; simp [Addr.add]
  · intro y hy
    simp at hy
    subst hy
    obtain ⟨B, d, e, _⟩ := hu.form
    rw [e]; rfl
  · unfold maxLen; omega
  · omega
  · simp; omega
  · intro v' w' h1 h2 _
    have h2' := grown_of_alloc h2
    have e1 : ∀ k, k < rows.length → (us ++ [u]).getD k (.slice none 0 0) = us.getD k (.slice none 0 0) := fun k hk => by simp [List.getD_eq_getElem?_getD, List.getElem?_append_left (show k < us.length by omega)]
    have e2 : (us ++ [u]).getD rows.length (.slice none 0 0) = u := by simp [List.getD_eq_getElem?_getD, ← hl]
    refine h v' w' ⟨us ++ [u], by simp [hl], by rw [List.length_append]; exact h1, fun k hk => ?_, fun i j hij hj => ?_⟩ h2'
    · rw [List.length_append, List.length_singleton] at hk
      by_cases hk2 : k < rows.length
      · have e3 : (rows ++ [xs]).getD k [] = rows.getD k [] := by simp [List.getD_eq_getElem?_getD, List.getElem?_append_left hk2]
        rw [e1 k hk2, e3]
        exact (hr k hk2).kept h2' (types_part (hr k hk2) hor (by decide))
      · obtain rfl : k = rows.length := by omega
        have e3 : (rows ++ [xs]).getD rows.length [] = xs := by simp [List.getD_eq_getElem?_getD]
        rw [e2, e3]
        exact hu.kept h2' (types_part hu hor (by decide))
    · rw [List.length_append, List.length_singleton] at hj
      rw [e1 i (by omega)]
      by_cases hj2 : j < rows.length
      · rw [e1 j hj2]; exact hd i j hij hj2
      · obtain rfl : j = rows.length := by omega
        rw [e2]
        rcases q : (us.getD i (.slice none 0 0)).ownBlock with _ | g
        · exact .inl rfl
        · right
          intro e
          have := hlt0 i hij g q
          have := (hu0.lt g e.symm).1
          omega
theorem below_appendV {B : Nat} {a w w' : World} {base : Nat} {v : Value} {rows : List (List Int)} (h : Below B a w) (hg : w.grownBy w' v.ownBlock) (hown : OwnRows w base v rows) (hB : B ≤ base) (hbase : base ≤ w.heap.size) : Below B a w' :=
  h.grown hg (Nat.le_trans hB hbase) (fun k hk => Nat.le_trans hB (hown.lt k hk).1)
end Go.Proofs.Ytajeledbmnndmaa

namespace Go.Proofs.Ytajeledbmnndmaa
open Go.RowKit Go.Sort
set_option maxRecDepth 100000
theorem wp_append1at2 {ops : Array Oper} {rest : List Oper} {o : Oper} {a : Act} {Q : Exit → Act → World → Prop} (w : World) (hgd : o.guard = none) (s x : Operand)
    (ho : o.op = .call { callee := .builtin .append, args := #[s, x], argTypes := #[22, 22] })
    (base : Nat) (v : Value) (xs : List Int) (y : Int) (hs : a.eval s = v) (hown : Own w base v xs) (hx : a.eval x = .slice (some ⟨w.heap.size, 0, none⟩) 1 1)
    (hlen : xs.length ≤ 1099511627776) (hbase : base ≤ w.heap.size)
    (h : ∀ v' w', Own w' base v' (xs ++ [y]) → w.grownBy w' v.ownBlock → (v'.ownBlock = v.ownBlock ∨ ∃ k, v'.ownBlock = some k ∧ w.heap.size ≤ k) → wpList Try.prog ops Q rest (a.put o.dst v') w') :
    wpList Try.prog ops Q (o :: rest) a (w.alloc (.cells #[.int .i64 y] 3)) := by
  obtain ⟨i0, hi, hz0, hz1, hz2⟩ := info_parts i64_info
  have hown' : (w.alloc (.cells #[.int .i64 y] 3)).ownsRow base 3 1 v xs.length (xs.map (Value.int .i64)) := World.ownsRow.alloc hown _
  refine wpList_append_own_at _ hgd s x 22 ho base 3 i0 (.int .i64 0) 1 8 Try.underlying22 hi hz0 hz1 hz2 rfl (by decide) v xs.length (xs.map (Value.int .i64)) hs hown' ⟨w.heap.size, 0, none⟩ 1 1 [.int .i64 y] hx rfl ?_ ?_ ?_ ?_ ?_ ?_
  · intro j u hj
    match j, hj with
    | 0, hj => simp at hj; subst hj; simp [Addr.add]
  · intro u hu; simp at hu; subst hu; rfl
  · unfold maxLen; omega
  · omega
  · simp; omega
  · intro v' w' h1 h2 _ h4
    refine h v' w' ?_ (grown_of_alloc h2) (h4.imp id fun e => ⟨_, e, by simp⟩)
    unfold Own
    rw [List.length_append, List.map_append]
    exact h1
def Own2U (w : World) (bo bi : Nat) (v : Value) (us : List Value) (rows : List (List Int)) : Prop :=
  us.length = rows.length ∧ w.ownsRow bo 22 1 v rows.length us ∧ (∀ k, k < rows.length → Own w bi (us.getD k (.slice none 0 0)) (rows.getD k [])) ∧
    ∀ i j, i < j → j < rows.length → (us.getD i (.slice none 0 0)).ownBlock = none ∨ (us.getD i (.slice none 0 0)).ownBlock ≠ (us.getD j (.slice none 0 0)).ownBlock
def Own2 (w : World) (bo bi : Nat) (v : Value) (rows : List (List Int)) : Prop := ∃ us : List Value, Own2U w bo bi v us rows
theorem Own2.nil_ (w : World) (bo bi : Nat) : Own2 w bo bi (.slice none 0 0) [] := ⟨[], rfl, World.ownsRow_nil _ _ _ _, fun k h => absurd h (by simp), fun i j _ h => absurd h (by simp)⟩
theorem Own2.lit0 (w : World) (bo bi : Nat) (hb : bo ≤ w.heap.size) : Own2 (w.alloc (.cells #[] 22)) bo bi (.slice (some ⟨w.heap.size, 0, none⟩) 0 0) [] := by
  have := World.ownsRow_lit (e := 22) (size := 1) w #[] 0 hb (by unfold maxLen; omega) (by simp)
  exact ⟨[], rfl, by simpa using this, fun k h => absurd h (by simp), fun i j _ h => absurd h (by simp)⟩
theorem Own2.below {w w' : World} {bo bi : Nat} {v : Value} {rows : List (List Int)} (h : Own2 w bo bi v rows) (hb : Below w.heap.size w w') : Own2 w' bo bi v rows := by
  obtain ⟨us, hl, ho, hr, hd⟩ := h
  exact ⟨us, hl, ownsRow_below ho hb, fun k hk => (hr k hk).below hb, hd⟩
theorem Own2.rows {w : World} {bo bi b : Nat} {v : Value} {rows : List (List Int)} (h : Own2 w bo bi v rows) (h1 : b ≤ bo) (h2 : b ≤ bi) : OwnRows w b v rows := by
  obtain ⟨us, hl, ho, hr, hd⟩ := h
  exact ⟨us, hl, ownsRow_mono ho h1, fun k hk => (hr k hk).mono h2, hd⟩
theorem Own2.form {w : World} {bo bi : Nat} {v : Value} {rows : List (List Int)} (h : Own2 w bo bi v rows) : ∃ A c, v = .slice A rows.length c ∧ c ≤ maxLen ∧ rows.length ≤ c ∧
    (0 < rows.length → ∃ g, A = some ⟨g, 0, none⟩ ∧ bo ≤ g ∧ g < w.heap.size) := by
  obtain ⟨us, hl, ho, hr, -⟩ := h
  have hlt := World.ownsRow.lt ho
  rcases ho.2 with ⟨rfl, e⟩ | ⟨g, cap, cur, rfl, hb, hg, hle, hm, _⟩
  · exact ⟨none, 0, by rw [e], by unfold maxLen; omega, by omega, fun h => absurd h (by omega)⟩
  · exact ⟨_, cap, rfl, hm, hle, fun _ => ⟨g, rfl, hlt g rfl⟩⟩
/-- the cell of one row -/
theorem Own2U.cell {w : World} {bo bi g n c : Nat} {us : List Value} {rows : List (List Int)} (h : Own2U w bo bi (.slice (some ⟨g, 0, none⟩) n c) us rows) (hn : rows.length = n) {k : Nat} (hk : k < rows.length) :
    w.cell? ⟨g, k, none⟩ = some (us.getD k (.slice none 0 0)) ∧ w.frozen? ⟨g, k, none⟩ = false := by
  subst hn
  obtain ⟨hl, ho, hr, hd⟩ := h
  have h1 := World.ownsRow.cells ho (g := g) rfl k (us.getD k (.slice none 0 0)) (by simp [show k < us.length by omega])
  rw [Addr.add_lit, Nat.zero_add] at h1
  exact ⟨h1, World.ownsRow.frozenAt ho k⟩
/-- an append to one row goes back into its place -/
theorem Own2U.put {w w1 : World} {bo bi g n c : Nat} {us : List Value} {rows : List (List Int)} (h : Own2U w bo bi (.slice (some ⟨g, 0, none⟩) n c) us rows) (hn : rows.length = n) {i : Nat} (hi : i < rows.length) {u' : Value} {ys : List Int}
    (ho' : Own w1 bi u' ys) (hg : w.grownBy w1 (us.getD i (.slice none 0 0)).ownBlock) (hat : u'.ownBlock = (us.getD i (.slice none 0 0)).ownBlock ∨ ∃ k, u'.ownBlock = some k ∧ w.heap.size ≤ k) :
    Own2U (w1.setCell ⟨g, i, none⟩ u') bo bi (.slice (some ⟨g, 0, none⟩) n c) (us.set i u') (rows.set i ys) ∧ w1.grownBy (w1.setCell ⟨g, i, none⟩ u') (some g) := by
  subst hn
  obtain ⟨hl, ho, hr, hd⟩ := h
  have ho1 : w1.ownsRow bo 22 1 (.slice (some ⟨g, 0, none⟩) rows.length c) rows.length us := World.ownsRow.kept ho hg (apart_symm' (types_part (hr i hi) ho (by decide)))
  have hst := World.ownsRow.stored ho1 i u'
  have hap : u'.ownBlock = none ∨ u'.ownBlock ≠ some g := by
    have := types_part ho' ho1 (by decide)
    simpa [Value.ownBlock] using this
  refine ⟨⟨by simp [hl], ?_, fun k hk => ?_, fun a b hab hb => ?_⟩, hst.2⟩
  · rw [List.length_set]
    exact hst.1
  · rw [List.length_set] at hk
    by_cases hik : i = k
    · subst hik
      rw [show (rows.set i ys).getD i [] = ys by simp [List.getD_eq_getElem?_getD, hk], show (us.set i u').getD i (.slice none 0 0) = u' by simp [List.getD_eq_getElem?_getD, show i < us.length by omega]]
      exact ho'.kept hst.2 hap
    · rw [show (rows.set i ys).getD k [] = rows.getD k [] by simp [List.getD_eq_getElem?_getD, List.getElem?_set_ne hik], show (us.set i u').getD k (.slice none 0 0) = us.getD k (.slice none 0 0) by simp [List.getD_eq_getElem?_getD, List.getElem?_set_ne hik]]
      have h1 : Own w1 bi (us.getD k (.slice none 0 0)) (rows.getD k []) := by
        refine (hr k hk).kept hg ?_
        rcases Nat.lt_or_gt_of_ne hik with q | q
        · exact apart_symm' (hd i k q hk)
        · exact hd k i q hi
      refine h1.kept hst.2 ?_
      have := types_part h1 ho1 (by decide)
      simpa [Value.ownBlock] using this
  · rw [List.length_set] at hb
    have key : ∀ k, k ≠ i → k < rows.length → (us.getD k (.slice none 0 0)).ownBlock = none ∨ (us.getD k (.slice none 0 0)).ownBlock ≠ u'.ownBlock := by
      intro k hki hk
      rcases hat with e | ⟨z, e, hz⟩
      · rw [e]
        rcases Nat.lt_or_gt_of_ne hki with q | q
        · exact hd k i q hi
        · exact apart_symm' (hd i k q hk)
      · rw [e]
        rcases q : (us.getD k (.slice none 0 0)).ownBlock with _ | x
        · exact .inl rfl
        · right
          intro e2
          have h3 := ((hr k hk).lt x q).2
          injection e2 with e2
          omega
    have ei : (us.set i u').getD i (.slice none 0 0) = u' := by simp [List.getD_eq_getElem?_getD, show i < us.length by omega]
    have en : ∀ k, k ≠ i → (us.set i u').getD k (.slice none 0 0) = us.getD k (.slice none 0 0) := fun k hk => by simp [List.getD_eq_getElem?_getD, List.getElem?_set_ne (Ne.symm hk)]
    by_cases h1 : a = i
    · subst h1
      rw [ei, en b (by omega)]
      exact apart_symm' (key b (by omega) hb)
    · by_cases h2 : b = i
      · subst h2
        rw [ei, en a h1]
        exact key a h1 (by omega)
      · rw [en a h1, en b h2]
        exact hd a b hab hb
theorem wp_append2V {ops : Array Oper} {rest : List Oper} {o : Oper} {a : Act} {Q : Exit → Act → World → Prop} (w : World) (hgd : o.guard = none) (s x : Operand)
    (ho : o.op = .call { callee := .builtin .append, args := #[s, x], argTypes := #[53, 53] })
    (bo bi : Nat) (v : Value) (rows : List (List Int)) (u : Value) (xs : List Int) (w0 : World) (hs : a.eval s = v) (hown0 : Own2 w0 bo bi v rows) (hb0 : Below w0.heap.size w0 w) (hu0 : Own w w0.heap.size u xs) (hbo0 : bo ≤ w0.heap.size) (hbi0 : bi ≤ w0.heap.size) (hx : a.eval x = .slice (some ⟨w.heap.size, 0, none⟩) 1 1)
    (hlen : rows.length ≤ 1048576)
    (h : ∀ v' w', Own2 w' bo bi v' (rows ++ [xs]) → w.grownBy w' v.ownBlock → wpList Try.prog ops Q rest (a.put o.dst v') w') :
    wpList Try.prog ops Q (o :: rest) a (w.alloc (.cells #[u] 22)) := by
  obtain ⟨i0, hi, hz0, hz1, hz2⟩ := info_parts rows_info
  have hu := hu0.mono hbi0
  have hbase : bo ≤ w.heap.size := Nat.le_trans hbo0 hb0.size
  obtain ⟨us0, hown0⟩ := hown0
  have hlt0 : ∀ k, k < rows.length → ∀ g, (us0.getD k (.slice none 0 0)).ownBlock = some g → g < w0.heap.size := fun k hk g hg => ((hown0.2.2.1 k hk).lt g hg).2
  obtain ⟨hl, hor, hr, hd⟩ : Own2U w bo bi v us0 rows := ⟨hown0.1, ownsRow_below hown0.2.1 hb0, fun k hk => (hown0.2.2.1 k hk).below hb0, hown0.2.2.2⟩
  have hor' : (w.alloc (.cells #[u] 22)).ownsRow bo 22 1 v rows.length us0 := World.ownsRow.alloc hor _
  refine wpList_append_own _ hgd s x 53 ho bo 22 i0 (.slice none 0 0) 1 24 Try.underlying53 hi hz0 hz1 hz2 rfl (by decide) v rows.length us0 hs hor' ⟨w.heap.size, 0, none⟩ 1 1 [u] hx rfl ?_ ?_ ?_ ?_ ?_ ?_
  · intro j y hj
    match j, hj with
    | 0, hj => simp at hj; subst hj; simp [Addr.add]
  · intro y hy
    simp at hy
    subst hy
    obtain ⟨B, d, e, _⟩ := hu.form
    rw [e]; rfl
  · unfold maxLen; omega
  · omega
  · simp; omega
  · intro v' w' h1 h2 _
    have h2' := grown_of_alloc h2
    have e1 : ∀ k, k < rows.length → (us0 ++ [u]).getD k (.slice none 0 0) = us0.getD k (.slice none 0 0) := fun k hk => by simp [List.getD_eq_getElem?_getD, List.getElem?_append_left (show k < us0.length by omega)]
    have e2 : (us0 ++ [u]).getD rows.length (.slice none 0 0) = u := by simp [List.getD_eq_getElem?_getD, ← hl]
    refine h v' w' ⟨us0 ++ [u], by simp [hl], by rw [List.length_append]; exact h1, fun k hk => ?_, fun i j hij hj => ?_⟩ h2'
    · rw [List.length_append, List.length_singleton] at hk
      by_cases hk2 : k < rows.length
      · have e3 : (rows ++ [xs]).getD k [] = rows.getD k [] := by simp [List.getD_eq_getElem?_getD, List.getElem?_append_left hk2]
        rw [e1 k hk2, e3]
        exact (hr k hk2).kept h2' (types_part (hr k hk2) hor (by decide))
      · obtain rfl : k = rows.length := by omega
        have e3 : (rows ++ [xs]).getD rows.length [] = xs := by simp [List.getD_eq_getElem?_getD]
        rw [e2, e3]
        exact hu.kept h2' (types_part hu hor (by decide))
    · rw [List.length_append, List.length_singleton] at hj
      rw [e1 i (by omega)]
      by_cases hj2 : j < rows.length
      · rw [e1 j hj2]; exact hd i j hij hj2
      · obtain rfl : j = rows.length := by omega
        rw [e2]
        rcases q : (us0.getD i (.slice none 0 0)).ownBlock with _ | g
        · exact .inl rfl
        · right
          intro e
          have := hlt0 i hij g q
          have := (hu0.lt g e.symm).1
          omega
end Go.Proofs.Ytajeledbmnndmaa

namespace Go.Proofs.Ytajeledbmnndmaa
open Go.RowKit

def maxTo (xs : List Int) : Nat → Int
  | 0 => xs[0]?.getD 0
  | k + 1 => max (maxTo xs k) (xs[k + 1]?.getD 0)
/-- the greatest of the numbers -/
def maxI (xs : List Int) : Int := maxTo xs (xs.length - 1)
theorem maxTo_bd {xs : List Int} {lo hi : Int} (h : ∀ k : Nat, lo ≤ xs[k]?.getD 0 ∧ xs[k]?.getD 0 ≤ hi) (k : Nat) : lo ≤ maxTo xs k ∧ maxTo xs k ≤ hi := by
  induction k with
  | zero => exact h 0
  | succ k ih => have := h (k + 1); unfold maxTo; omega
theorem maxTo_ge (xs : List Int) (k : Nat) : ∀ j, j ≤ k → xs[j]?.getD 0 ≤ maxTo xs k := by
  induction k with
  | zero => intro j hj; obtain rfl : j = 0 := by omega
            exact Int.le_refl _
  | succ k ih =>
    intro j hj
    unfold maxTo
    by_cases h : j = k + 1
    · subst h; omega
    · have := ih j (by omega); omega
theorem maxTo_mem (xs : List Int) (k : Nat) : ∃ j, j ≤ k ∧ maxTo xs k = xs[j]?.getD 0 := by
  induction k with
  | zero => exact ⟨0, Nat.le_refl _, rfl⟩
  | succ k ih =>
    obtain ⟨j, hj, e⟩ := ih
    unfold maxTo
    by_cases h : maxTo xs k ≤ xs[k + 1]?.getD 0
    · exact ⟨k + 1, Nat.le_refl _, by omega⟩
    · exact ⟨j, by omega, by omega⟩
theorem maxI_pos {xs : List Int} (h0 : ∀ x ∈ xs, 0 ≤ x) (hne : 0 < xs.length) : 0 < maxI xs ↔ ∃ x ∈ xs, x ≠ 0 := by
  constructor
  · intro h
    obtain ⟨j, hj, e⟩ := maxTo_mem xs (xs.length - 1)
    have hjl : j < xs.length := by omega
    refine ⟨xs[j], List.getElem_mem hjl, ?_⟩
    unfold maxI at h
    rw [e, List.getElem?_eq_getElem hjl] at h
    simp at h
    omega
  · rintro ⟨x, hx, hx0⟩
    obtain ⟨j, hj, rfl⟩ := List.mem_iff_getElem.1 hx
    have h1 := maxTo_ge xs (xs.length - 1) j (by omega)
    rw [List.getElem?_eq_getElem hj] at h1
    have h2 := h0 _ (List.getElem_mem hj)
    simp at h1
    unfold maxI
    omega

set_option maxHeartbeats 400000 in
theorem max_any (v : Value) (xs : List Int) (w : World) (h : Rd w v xs) (hne : 0 < xs.length) :
    Calls Try.prog 78 #[v] w fun e w' => e = .returned (.int .i64 (maxI xs)) ∧ w = w' := by
  obtain ⟨A, c, rfl, hl1, hm1, hc1⟩ := h
  unfold maxLen at hm1
  obtain ⟨b, off, rfl, hb, hx⟩ := hc1 hne
  generalize hn : xs.length = n at *
  have H1 := Lib.hid hn
  have h0 := hx 0 (by omega)
  simp only [Nat.add_zero] at h0
  have HX := Lib.hid hx
  have hlt1 : ¬ ((n : Int) < 1) := by omega
  clear hn hc1 hx
  go_enter Try.func78, Try.ntmps78
  go_wp2
  go_loop [3, 4] (fun s i => ∃ k : Nat, k + 1 ≤ n ∧ i = .int .i64 ((k + 1 : Nat) : Int) ∧ s = .int .i64 (maxTo xs k)) (fun _ i => n - (intOf i).toNat)
  case atStart => exact ⟨0, by omega, rfl, by simp [maxTo]⟩
  case round =>
    obtain ⟨k, hk, rfl, rfl⟩ := hrel
    by_cases hlt : k + 1 < n
    · have hxk := HX.out (k + 1) hlt
      have hms : maxTo xs (k + 1) = max (maxTo xs k) (xs[k + 1]?.getD 0) := rfl
      have HM := Lib.hid hms
      clear hms
      generalize maxTo xs k = m at *
      go_wp2
      go_round
      case rel => exact ⟨k + 1, by omega, by go_num, by first | (rw [HM.out]; done) | (rw [HM.out]; congr 1; done) | (rw [HM.out]; congr 1; split <;> omega)⟩
      case measure => simp [intOf]; omega
    · have hge : ¬ (((k + 1 : Nat) : Int) < (n : Int)) := by omega
      go_wp2
      go_ret
      refine ⟨ret_int ?_, rfl⟩
      have := H1.out
      unfold maxI
      rw [this, show n - 1 = k from by omega]
end Go.Proofs.Ytajeledbmnndmaa

namespace Go.Proofs.Ytajeledbmnndmaa
open Go.RowKit Go.Sort

noncomputable def stratB (s : Int) (xs ws : List Int) : Bool := tourB s xs && (((ws.length : Int) == s) && (allB ws 0 100000 && decide (0 < ws.sum)))
theorem allB_of {xs : List Int} {lo hi : Int} (h : allB xs lo hi = true) : ∀ x ∈ xs, lo ≤ x ∧ x ≤ hi := by
  unfold allB at h; rw [List.all_eq_true] at h; exact fun x hx => inB_true.1 (h x hx)
theorem allB_true {xs : List Int} {lo hi : Int} (h : ∀ x ∈ xs, lo ≤ x ∧ x ≤ hi) : allB xs lo hi = true := by
  unfold allB; rw [List.all_eq_true]; exact fun x hx => inB_true.2 (h x hx)
theorem stratB_true {s : Int} {xs ws : List Int} : stratB s xs ws = true ↔ tourP s xs ∧ (ws.length : Int) = s ∧ (∀ x ∈ ws, 0 ≤ x ∧ x ≤ 100000) ∧ 0 < ws.sum := by
  simp only [stratB, Bool.and_eq_true, tourB_true, beq_iff_eq, decide_eq_true_eq]
  exact ⟨fun h => ⟨h.1, h.2.1, allB_of h.2.2.1, h.2.2.2⟩, fun h => ⟨h.1, h.2.1, allB_true h.2.2.1, h.2.2.2⟩⟩
theorem sum_pos {xs : List Int} (h0 : ∀ x ∈ xs, 0 ≤ x) : 0 ≤ xs.sum ∧ (0 < xs.sum ↔ ∃ x ∈ xs, x ≠ 0) := by
  induction xs with
  | nil => simp
  | cons a xs ih =>
    have ih := ih fun x hx => h0 x (by simp [hx])
    have ha := h0 a (by simp)
    rw [List.sum_cons]
    refine ⟨by omega, ?_⟩
    constructor
    · intro h
      by_cases hz : a = 0
      · obtain ⟨x, hx, hne⟩ := ih.2.1 (by omega)
        exact ⟨x, by simp [hx], hne⟩
      · exact ⟨a, by simp, hz⟩
    · rintro ⟨x, hx, hne⟩
      rw [List.mem_cons] at hx
      rcases hx with rfl | hx
      · omega
      · have := ih.2.2 ⟨x, hx, hne⟩; omega
theorem max_sum {xs : List Int} (h0 : ∀ x ∈ xs, 0 ≤ x) (hne : 0 < xs.length) : decide (0 < maxI xs) = decide (0 < xs.sum) := by
  have h1 := maxI_pos h0 hne
  have h2 := (sum_pos h0).2
  rw [decide_eq_decide, h1, h2]
theorem take_snocI {xs : List Int} {k : Nat} (hk : k < xs.length) : xs.take (k + 1) = xs.take k ++ [xs[k]?.getD 0] := by
  rw [List.take_succ_eq_append_getElem hk]
  simp [hk]
theorem sum_take_bd {xs : List Int} (B : Nat) (h : ∀ x ∈ xs, 0 ≤ x ∧ x ≤ B) (k : Nat) (hk : k ≤ xs.length) : 0 ≤ (xs.take k).sum ∧ (xs.take k).sum ≤ B * k := by
  induction k with
  | zero => simp
  | succ k ih =>
    have ih := ih (by omega)
    rw [take_snocI (by omega), List.sum_append, List.sum_singleton]
    have hx := h (xs[k]?.getD 0) (by rw [List.getElem?_eq_getElem (by omega)]; exact List.getElem_mem _)
    have : (B : Int) * ((k + 1 : Nat) : Int) = B * k + B := by rw [Int.natCast_add, Int.mul_add]; simp
    omega

set_option maxHeartbeats 1000000 in
theorem implStrat (s : Int) (sl : Value) (xs : List Int) (wv : Value) (ws : List Int) (w : World) (h : Rd w sl xs) (h2 : Rd w wv ws) :
    Calls Try.prog 21 #[.agg #[.int .i64 s, sl], wv] w fun e w' => e = .returned (.bool (stratB s xs ws)) ∧ Below w.heap.size w w' := by
  have HR := Lib.hid h
  have HW := Lib.hid h2
  obtain ⟨A, c, rfl, -, -, -⟩ := h
  obtain ⟨B, d, rfl, -, hm, -⟩ := h2
  unfold maxLen at hm
  rcases q0 : tourB s xs with _ | _
  case false =>
    go_enter Try.func21, Try.ntmps21
    go_wp2_with fail
    have b0 := below_alloc1 w (.cells #[.int .i64 s, .slice A xs.length c] 28)
    have x0 := TBox.new w s (.slice A xs.length c) 28
    generalize w.alloc (.cells #[.int .i64 s, .slice A xs.length c] 28) = w0 at *
    have HX0 := Lib.hid x0
    have HB0 := Lib.hid b0
    clear x0 b0
    have y0_0 := HX0.out.1
    have y1_0 := HX0.out.2
    go_wp2_with fail
    refine (implTourOk s _ xs _ (HR.out.below HB0.out)).mono ?_
    rintro e w1 ⟨rfl, hb⟩
    have HX1 := Lib.hid (HX0.out.below hb)
    have HB1 := Lib.hid (Below.then HB0.out hb)
    clear hb HX0 HB0 y0_0 y1_0
    have y0_1 := HX1.out.1
    have y1_1 := HX1.out.2
    rw [q0]
    go_wp2
    go_ret
    exact ⟨ret_bool (by simp [stratB, *]), HB1.out⟩
  have hs := (tourB_true.1 q0).1
  rcases q1 : ((ws.length : Int) == s) with _ | _
  case false =>
    go_enter Try.func21, Try.ntmps21
    go_wp2_with fail
    have b0 := below_alloc1 w (.cells #[.int .i64 s, .slice A xs.length c] 28)
    have x0 := TBox.new w s (.slice A xs.length c) 28
    generalize w.alloc (.cells #[.int .i64 s, .slice A xs.length c] 28) = w0 at *
    have HX0 := Lib.hid x0
    have HB0 := Lib.hid b0
    clear x0 b0
    have y0_0 := HX0.out.1
    have y1_0 := HX0.out.2
    go_wp2_with fail
    refine (implTourOk s _ xs _ (HR.out.below HB0.out)).mono ?_
    rintro e w1 ⟨rfl, hb⟩
    have HX1 := Lib.hid (HX0.out.below hb)
    have HB1 := Lib.hid (Below.then HB0.out hb)
    clear hb HX0 HB0 y0_0 y1_0
    have y0_1 := HX1.out.1
    have y1_1 := HX1.out.2
    rw [q0]
    go_wp2
    go_ret
    exact ⟨ret_bool (by simp [stratB, *]), HB1.out⟩
  rcases q2 : allB ws 0 100000 with _ | _
  case false =>
    go_enter Try.func21, Try.ntmps21
    go_wp2_with fail
    have b0 := below_alloc1 w (.cells #[.int .i64 s, .slice A xs.length c] 28)
    have x0 := TBox.new w s (.slice A xs.length c) 28
    generalize w.alloc (.cells #[.int .i64 s, .slice A xs.length c] 28) = w0 at *
    have HX0 := Lib.hid x0
    have HB0 := Lib.hid b0
    clear x0 b0
    have y0_0 := HX0.out.1
    have y1_0 := HX0.out.2
    go_wp2_with fail
    refine (implTourOk s _ xs _ (HR.out.below HB0.out)).mono ?_
    rintro e w1 ⟨rfl, hb⟩
    have HX1 := Lib.hid (HX0.out.below hb)
    have HB1 := Lib.hid (Below.then HB0.out hb)
    clear hb HX0 HB0 y0_0 y1_0
    have y0_1 := HX1.out.1
    have y1_1 := HX1.out.2
    rw [q0]
    go_wp2_with fail
    refine (allWithin_any _ ws 0 100000 _ (HW.out.below HB1.out)).mono ?_
    rintro e w2 ⟨rfl, hb⟩
    have HX2 := Lib.hid (HX1.out.below hb)
    have HB2 := Lib.hid (Below.then HB1.out hb)
    clear hb HX1 HB1 y0_1 y1_1
    have y0_2 := HX2.out.1
    have y1_2 := HX2.out.2
    rw [q2]
    go_wp2
    go_ret
    exact ⟨ret_bool (by simp [stratB, *]), HB2.out⟩
  have hA := Lib.hid (allB_of q2)
  have hL : Hid (0 < ws.length) := (by have := beq_iff_eq.1 q1; show 0 < ws.length; omega)
  go_enter Try.func21, Try.ntmps21
  go_wp2_with fail
  have b0 := below_alloc1 w (.cells #[.int .i64 s, .slice A xs.length c] 28)
  have x0 := TBox.new w s (.slice A xs.length c) 28
  generalize w.alloc (.cells #[.int .i64 s, .slice A xs.length c] 28) = w0 at *
  have HX0 := Lib.hid x0
  have HB0 := Lib.hid b0
  clear x0 b0
  have y0_0 := HX0.out.1
  have y1_0 := HX0.out.2
  go_wp2_with fail
  refine (implTourOk s _ xs _ (HR.out.below HB0.out)).mono ?_
  rintro e w1 ⟨rfl, hb⟩
  have HX1 := Lib.hid (HX0.out.below hb)
  have HB1 := Lib.hid (Below.then HB0.out hb)
  clear hb HX0 HB0 y0_0 y1_0
  have y0_1 := HX1.out.1
  have y1_1 := HX1.out.2
  rw [q0]
  go_wp2_with fail
  refine (allWithin_any _ ws 0 100000 _ (HW.out.below HB1.out)).mono ?_
  rintro e w2 ⟨rfl, hb⟩
  have HX2 := Lib.hid (HX1.out.below hb)
  have HB2 := Lib.hid (Below.then HB1.out hb)
  clear hb HX1 HB1 y0_1 y1_1
  have y0_2 := HX2.out.1
  have y1_2 := HX2.out.2
  rw [q2]
  go_wp2_with fail
  refine (max_any _ ws _ (HW.out.below HB2.out) hL.out).mono ?_
  rintro e wz ⟨rfl, rfl⟩
  have hF : Hid (decide (0 < maxI ws) = stratB s xs ws) := by
    unfold Hid
    rw [max_sum (fun x hx => (hA.out x hx).1) hL.out, stratB, q0, q1, q2]
    rfl
  go_wp2
  go_ret
  exact ⟨ret_bool hF.out, HB2.out⟩
end Go.Proofs.Ytajeledbmnndmaa

namespace Go.Proofs.Ytajeledbmnndmaa
open Go.RowKit Go.Sort

/-- what player a adds to the balance of b -/
def balT (xs ws : List Int) (b a : Nat) : Int := if bitI (xs.getD a 0) b = true then ws.getD a 0 else if bitI (xs.getD b 0) a = true then - ws.getD a 0 else 0
def balK (xs ws : List Int) (b : Nat) : Nat → Int
  | 0 => 0
  | k + 1 => balK xs ws b k + balT xs ws b k
/-- the balance of player b -/
def balI (xs ws : List Int) (b : Nat) : Int := balK xs ws b ws.length
theorem balK_bd {xs ws : List Int} (b : Nat) (h : ∀ x ∈ ws, 0 ≤ x ∧ x ≤ 100000) (k : Nat) (hk : k ≤ ws.length) : -(100000 * (k : Int)) ≤ balK xs ws b k ∧ balK xs ws b k ≤ 100000 * k := by
  induction k with
  | zero => simp [balK]
  | succ k ih =>
    have ih := ih (by omega)
    have hx := h (ws.getD k 0) (by
      rw [List.getD_eq_getElem?_getD, List.getElem?_eq_getElem (by omega)]; exact List.getElem_mem _)
    simp only [balK, balT]
    repeat' split
    all_goals omega
theorem tour_excl {s : Int} {xs : List Int} (h : tourP s xs) {a b : Nat} (ha : a < xs.length) (hb : b < xs.length) (hab : bitI (xs.getD a 0) b = true) : bitI (xs.getD b 0) a = false := by
  have hT := h.2.2.2
  rcases Nat.lt_trichotomy a b with hlt | rfl | hlt
  · have := (hT b hb).2 a hlt
    rw [hab] at this
    cases hq : bitI (xs.getD b 0) a with
    | false => rfl
    | true => exact absurd hq this
  · have := (hT a ha).1
    rw [hab] at this
    cases this
  · have := (hT a ha).2 b hlt
    rw [hab] at this
    cases hq : bitI (xs.getD b 0) a with
    | false => rfl
    | true => rw [hq] at this; exact absurd rfl this

set_option maxHeartbeats 1000000 in
theorem balance_any (s : Int) (sl : Value) (xs : List Int) (wv : Value) (ws : List Int) (b : Int) (w : World) (h : Rd w sl xs) (h2 : Rd w wv ws) (hp : stratB s xs ws = true) (hb0 : 0 ≤ b) (hb1 : b < ws.length) :
    Calls Try.prog 79 #[.agg #[.int .i64 s, sl], wv, .int .i64 b] w fun e w' => e = .returned (.int .i64 (balI xs ws b.toNat)) ∧ Below w.heap.size w w' := by
  obtain ⟨b, rfl⟩ := Int.eq_ofNat_of_zero_le hb0
  obtain ⟨A, c, rfl, hl, hm, hc⟩ := h
  obtain ⟨B, d, rfl, hl2, hm2, hc2⟩ := h2
  unfold maxLen at hm hm2
  obtain ⟨tp, hls, hrange, -⟩ := stratB_true.1 hp
  have hxl : xs.length = ws.length := by have := tp.2.1; omega
  have h8 : ws.length ≤ 8 := by have := tp.1; omega
  have hbl : b < ws.length := by omega
  have HR := Lib.hid hrange
  have HC := Lib.hid hc
  have HC2 := Lib.hid hc2
  have HXL := Lib.hid hxl
  have x0 := TBox.new w s (.slice A xs.length c) 28
  have b0 := below_alloc1 w (.cells #[.int .i64 s, .slice A xs.length c] 28)
  have HB := Lib.hid b0
  have y0 := x0.1
  have y1 := x0.2
  clear hp tp hls hrange hc hc2 hxl x0 b0
  go_enter Try.func79, Try.ntmps79
  go_wp2
  generalize w.alloc (.cells #[.int .i64 s, .slice A xs.length c] 28) = w0 at *
  go_loop [7, 12] (fun u i => ∃ k : Nat, k ≤ ws.length ∧ i = .int .i64 k ∧ u = .int .i64 (balK xs ws b k)) (fun _ i => ws.length - (intOf i).toNat)
  case atStart => exact ⟨0, by omega, rfl, rfl⟩
  case round =>
    obtain ⟨k, hk, rfl, rfl⟩ := hrel
    by_cases hlt : k < ws.length
    · have hkx : k < xs.length := by rw [HXL.out]; exact hlt
      have hbx : b < xs.length := by rw [HXL.out]; exact hbl
      obtain ⟨g, off, rfl, hg, hx⟩ := HC.out (by omega)
      obtain ⟨g', off', rfl, hg', hy⟩ := HC2.out (by omega)
      have hxk := (HB.out.cell (by exact hg)).trans (hx k hkx)
      have hxb := (HB.out.cell (by exact hg)).trans (hx b hbx)
      have hyk := (HB.out.cell (by exact hg')).trans (hy k hlt)
      have hbd := balK_bd (xs := xs) b HR.out k (by omega)
      have hwk := HR.out ws[k] (List.getElem_mem hlt)
      have hst : balK xs ws b (k + 1) = balK xs ws b k + balT xs ws b k := rfl
      have e1 : xs.getD k 0 = xs[k] := by simp [hkx]
      have e2 : xs.getD b 0 = xs[b] := by simp [hbx]
      have e3 : ws.getD k 0 = ws[k] := by simp [hlt]
      rw [e1] at hxk
      rw [e2] at hxb
      rw [e3] at hyk
      have HT : Hid (balT xs ws b k = if bitI xs[k] b = true then ws[k] else if bitI xs[b] k = true then - ws[k] else 0) := by unfold Hid balT; rw [e1, e2, e3]
      have HS := Lib.hid hst
      clear hx hy hst e1 e2 e3
      generalize balK xs ws b k = m at *
      rcases q1 : bitI xs[k] b with _ | _
      · have q1' : (bits BinOp.and IntKind.i64 (xs[k] / 2 ^ b) 1 == 1) = false := by rw [bit_walk]; exact q1
        rcases q2 : bitI xs[b] k with _ | _
        · have q2' : (bits BinOp.and IntKind.i64 (xs[b] / 2 ^ k) 1 == 1) = false := by rw [bit_walk]; exact q2
          go_wp2
          go_round
          case rel => exact ⟨k + 1, by omega, by go_num, by rw [HS.out, HT.out, q1, q2]; simp⟩
          case measure => simp [intOf]; omega
        · have q2' : (bits BinOp.and IntKind.i64 (xs[b] / 2 ^ k) 1 == 1) = true := by rw [bit_walk]; exact q2
          go_wp2
          go_round
          case rel => exact ⟨k + 1, by omega, by go_num, by rw [HS.out, HT.out, q1, q2]; simp; omega⟩
          case measure => simp [intOf]; omega
      · have q1' : (bits BinOp.and IntKind.i64 (xs[k] / 2 ^ b) 1 == 1) = true := by rw [bit_walk]; exact q1
        go_wp2
        go_round
        case rel => exact ⟨k + 1, by omega, by go_num, by rw [HS.out, HT.out, q1]; simp⟩
        case measure => simp [intOf]; omega
    · obtain rfl : k = ws.length := by omega
      go_wp2
      go_ret
      exact ⟨rfl, HB.out⟩
set_option maxHeartbeats 1000000 in
theorem l10Balance_any (s : Int) (sl : Value) (xs : List Int) (wv : Value) (ws : List Int) (b : Int) (w : World) (h : Rd w sl xs) (h2 : Rd w wv ws) (hp : stratB s xs ws = true) (hb0 : 0 ≤ b) (hb1 : b < ws.length) :
    Calls Try.prog 120 #[.agg #[.int .i64 s, sl], wv, .int .i64 b] w fun e w' => e = .returned (.int .i64 (balI xs ws b.toNat)) ∧ Below w.heap.size w w' := by
  obtain ⟨b, rfl⟩ := Int.eq_ofNat_of_zero_le hb0
  have HRD := Lib.hid h
  obtain ⟨A, c, rfl, hl, hm, -⟩ := h
  obtain ⟨B, d, rfl, hl2, hm2, hc2⟩ := h2
  unfold maxLen at hm hm2
  obtain ⟨tp, hls, hrange, -⟩ := stratB_true.1 hp
  have hxl : xs.length = ws.length := by have := tp.2.1; omega
  have h8 : ws.length ≤ 8 := by have := tp.1; omega
  have hbl : b < ws.length := by omega
  have HTP := Lib.hid tp
  have HR := Lib.hid hrange
  have HC2 := Lib.hid hc2
  have HXL := Lib.hid hxl
  have x0 := TBox.new w s (.slice A xs.length c) 28
  have b0 := below_alloc1 w (.cells #[.int .i64 s, .slice A xs.length c] 28)
  have HB := Lib.hid b0
  have HX := Lib.hid x0
  clear hp tp hls hrange hc2 hxl x0 b0
  go_enter Try.func120, Try.ntmps120
  go_wp2
  generalize w.alloc (.cells #[.int .i64 s, .slice A xs.length c] 28) = w0 at *
  go_loopw [7, 12] (fun u i wr => ∃ k : Nat, k ≤ ws.length ∧ i = .int .i64 k ∧ u = .int .i64 (balK xs ws b k) ∧ Below w.heap.size w wr ∧ TBox wr w.heap.size s (.slice A xs.length c)) (fun _ i _ => ws.length - (intOf i).toNat)
  case atStart => exact ⟨0, by omega, rfl, rfl, HB.out, HX.out⟩
  case round =>
    obtain ⟨k, hk, rfl, rfl, hb, hx⟩ := hrel
    have HB' := Lib.hid hb
    have HX' := Lib.hid hx
    have y0 := hx.1
    have y1 := hx.2
    clear hx HB HX
    by_cases hlt : k < ws.length
    · have hkx : k < xs.length := by rw [HXL.out]; exact hlt
      have hbx : b < xs.length := by rw [HXL.out]; exact hbl
      obtain ⟨g', off', rfl, hg', hy⟩ := HC2.out (by omega)
      have hyk := (hb.cell (by exact hg')).trans (hy k hlt)
      have hbd := balK_bd (xs := xs) b HR.out k (by omega)
      have hwk := HR.out ws[k] (List.getElem_mem hlt)
      have hst : balK xs ws b (k + 1) = balK xs ws b k + balT xs ws b k := rfl
      have e3 : ws.getD k 0 = ws[k] := by simp [hlt]
      rw [e3] at hyk
      have HT : Hid (balT xs ws b k = if bitI (xs.getD k 0) b = true then ws[k] else if bitI (xs.getD b 0) k = true then - ws[k] else 0) := by unfold Hid balT; rw [e3]
      have HE := Lib.hid (fun h => tour_excl HTP.out (a := k) (b := b) hkx hbx h)
      have HS := Lib.hid hst
      clear hy hst e3 hb
      generalize balK xs ws b k = m at *
      go_wp2_with fail
      refine (l02Beats_any s _ xs k b _ (HRD.out.below HB'.out) (by omega) (by omega) (by omega) (by omega)).mono ?_
      rintro e w1 ⟨rfl, hb1⟩
      have HB1 := Lib.hid (Below.then HB'.out hb1)
      have HX1 := Lib.hid (HX'.out.below hb1)
      clear hb1 HX' HB' y0 y1
      have y0 := HX1.out.1
      have y1 := HX1.out.2
      rw [show ((k : Int)).toNat = k from rfl, show ((b : Int)).toNat = b from rfl]
      rcases q1 : bitI (xs.getD k 0) b with _ | _
      · go_wp2_with fail
        refine (l02Beats_any s _ xs b k _ (HRD.out.below HB1.out) (by omega) (by omega) (by omega) (by omega)).mono ?_
        rintro e w2 ⟨rfl, hb2⟩
        have HB2 := Lib.hid (Below.then HB1.out hb2)
        have HX2 := Lib.hid (HX1.out.below hb2)
        clear hb2 HX1 HB1 y0 y1
        rw [show ((k : Int)).toNat = k from rfl, show ((b : Int)).toNat = b from rfl]
        rcases q2 : bitI (xs.getD b 0) k with _ | _
        · go_wp2
          go_roundw
          case rel => exact ⟨k + 1, by omega, by go_num, by rw [HS.out, HT.out, q1, q2]; simp, HB2.out, HX2.out⟩
          case measure => simp [intOf]; omega
        · go_wp2
          go_roundw
          case rel => exact ⟨k + 1, by omega, by go_num, by rw [HS.out, HT.out, q1, q2]; simp; omega, HB2.out, HX2.out⟩
          case measure => simp [intOf]; omega
      · have q2 := HE.out q1
        go_wp2_with fail
        refine (l02Beats_any s _ xs b k _ (HRD.out.below HB1.out) (by omega) (by omega) (by omega) (by omega)).mono ?_
        rintro e w2 ⟨rfl, hb2⟩
        have HB2 := Lib.hid (Below.then HB1.out hb2)
        have HX2 := Lib.hid (HX1.out.below hb2)
        clear hb2 HX1 HB1 y0 y1
        rw [show ((k : Int)).toNat = k from rfl, show ((b : Int)).toNat = b from rfl, q2]
        go_wp2
        go_roundw
        case rel => exact ⟨k + 1, by omega, by go_num, by rw [HS.out, HT.out, q1]; simp, HB2.out, HX2.out⟩
        case measure => simp [intOf]; omega
    · obtain rfl : k = ws.length := by omega
      go_wp2
      go_ret
      exact ⟨rfl, HB'.out⟩
end Go.Proofs.Ytajeledbmnndmaa

namespace Go.Proofs.Ytajeledbmnndmaa
open Go.RowKit Go.Sort

noncomputable def balOfI (s : Int) (xs ws : List Int) (b : Int) : Int := if (stratB s xs ws && inB b 0 (s - 1)) = true then balI xs ws b.toNat else 0
/-- no balance of the first k is negative -/
def safeK (xs ws : List Int) (k : Nat) : Bool := (List.range k).all fun b => decide (0 ≤ balI xs ws b)
noncomputable def safeB (s : Int) (xs ws : List Int) : Bool := stratB s xs ws && safeK xs ws ws.length
theorem safeK_true {xs ws : List Int} {k : Nat} : safeK xs ws k = true ↔ ∀ b, b < k → 0 ≤ balI xs ws b := by simp [safeK]
theorem safeK_no {xs ws : List Int} {k n : Nat} (hk : k < n) (h : balI xs ws k < 0) : safeK xs ws n = false := by
  rcases hq : safeK xs ws n with _ | _
  · rfl
  · have := safeK_true.1 hq k hk; omega
def bestN (xs ws : List Int) : Nat → Nat
  | 0 => 0
  | k + 1 => if balI xs ws k < balI xs ws (bestN xs ws k) then k else bestN xs ws k
theorem bestN_lt (xs ws : List Int) (k : Nat) : bestN xs ws k ≤ k - 1 := by
  induction k with
  | zero => simp [bestN]
  | succ k ih => simp only [bestN]; split <;> omega
noncomputable def bestI (s : Int) (xs ws : List Int) : Int := if stratB s xs ws = true then bestN xs ws ws.length else -1
theorem strat_dim {s : Int} {xs ws : List Int} (h : stratB s xs ws = true) : 1 ≤ s ∧ s ≤ 8 ∧ (ws.length : Int) = s ∧ (xs.length : Int) = s := by
  obtain ⟨tp, hl, -, -⟩ := stratB_true.1 h
  exact ⟨tp.1.1, tp.1.2, hl, tp.2.1⟩
theorem balI_bd {s : Int} {xs ws : List Int} (h : stratB s xs ws = true) (b : Nat) : -800000 ≤ balI xs ws b ∧ balI xs ws b ≤ 800000 := by
  have hd := strat_dim h
  have := balK_bd (xs := xs) b (stratB_true.1 h).2.2.1 ws.length (Nat.le_refl _)
  unfold balI; omega

set_option maxHeartbeats 1000000 in
theorem implBalanceOf (s : Int) (sl : Value) (xs : List Int) (wv : Value) (ws : List Int) (b : Int) (w : World) (h : Rd w sl xs) (h2 : Rd w wv ws) :
    Calls Try.prog 25 #[.agg #[.int .i64 s, sl], wv, .int .i64 b] w fun e w' => e = .returned (.int .i64 (balOfI s xs ws b)) ∧ Below w.heap.size w w' := by
  have HR := Lib.hid h
  have HW := Lib.hid h2
  obtain ⟨A, c, rfl, -, -, -⟩ := h
  obtain ⟨B, d, rfl, -, hm, -⟩ := h2
  unfold maxLen at hm
  rcases q0 : stratB s xs ws with _ | _
  case false =>
    go_enter Try.func25, Try.ntmps25
    go_wp2_with fail
    have b0 := below_alloc1 w (.cells #[.int .i64 s, .slice A xs.length c] 28)
    have x0 := TBox.new w s (.slice A xs.length c) 28
    generalize w.alloc (.cells #[.int .i64 s, .slice A xs.length c] 28) = w0 at *
    have HX0 := Lib.hid x0
    have HB0 := Lib.hid b0
    clear x0 b0
    have y0_0 := HX0.out.1
    have y1_0 := HX0.out.2
    go_wp2_with fail
    refine (implStrat s _ xs _ ws _ (HR.out.below HB0.out) (HW.out.below HB0.out)).mono ?_
    rintro e w1 ⟨rfl, hb⟩
    have HX1 := Lib.hid (HX0.out.below hb)
    have HB1 := Lib.hid (Below.then HB0.out hb)
    clear hb HX0 HB0 y0_0 y1_0
    have y0_1 := HX1.out.1
    have y1_1 := HX1.out.2
    rw [q0]
    go_wp2
    go_ret
    exact ⟨ret_int (by simp [balOfI, *]), HB1.out⟩
  have hs := strat_dim q0
  rcases q1 : inB b 0 (s - 1) with _ | _
  case false =>
    go_enter Try.func25, Try.ntmps25
    go_wp2_with fail
    have b0 := below_alloc1 w (.cells #[.int .i64 s, .slice A xs.length c] 28)
    have x0 := TBox.new w s (.slice A xs.length c) 28
    generalize w.alloc (.cells #[.int .i64 s, .slice A xs.length c] 28) = w0 at *
    have HX0 := Lib.hid x0
    have HB0 := Lib.hid b0
    clear x0 b0
    have y0_0 := HX0.out.1
    have y1_0 := HX0.out.2
    go_wp2_with fail
    refine (implStrat s _ xs _ ws _ (HR.out.below HB0.out) (HW.out.below HB0.out)).mono ?_
    rintro e w1 ⟨rfl, hb⟩
    have HX1 := Lib.hid (HX0.out.below hb)
    have HB1 := Lib.hid (Below.then HB0.out hb)
    clear hb HX0 HB0 y0_0 y1_0
    have y0_1 := HX1.out.1
    have y1_1 := HX1.out.2
    rw [q0]
    go_wp2_with fail
    refine (has_any s (.slice A xs.length c) b _ (by omega)).mono ?_
    rintro e w2 ⟨rfl, hb⟩
    have HX2 := Lib.hid (HX1.out.below hb)
    have HB2 := Lib.hid (Below.then HB1.out hb)
    clear hb HX1 HB1 y0_1 y1_1
    have y0_2 := HX2.out.1
    have y1_2 := HX2.out.2
    rw [q1]
    go_wp2
    go_ret
    exact ⟨ret_int (by simp [balOfI, *]), HB2.out⟩
  have hb1 := inB_true.1 q1
  go_enter Try.func25, Try.ntmps25
  go_wp2_with fail
  have b0 := below_alloc1 w (.cells #[.int .i64 s, .slice A xs.length c] 28)
  have x0 := TBox.new w s (.slice A xs.length c) 28
  generalize w.alloc (.cells #[.int .i64 s, .slice A xs.length c] 28) = w0 at *
  have HX0 := Lib.hid x0
  have HB0 := Lib.hid b0
  clear x0 b0
  have y0_0 := HX0.out.1
  have y1_0 := HX0.out.2
  go_wp2_with fail
  refine (implStrat s _ xs _ ws _ (HR.out.below HB0.out) (HW.out.below HB0.out)).mono ?_
  rintro e w1 ⟨rfl, hb⟩
  have HX1 := Lib.hid (HX0.out.below hb)
  have HB1 := Lib.hid (Below.then HB0.out hb)
  clear hb HX0 HB0 y0_0 y1_0
  have y0_1 := HX1.out.1
  have y1_1 := HX1.out.2
  rw [q0]
  go_wp2_with fail
  refine (has_any s (.slice A xs.length c) b _ (by omega)).mono ?_
  rintro e w2 ⟨rfl, hb⟩
  have HX2 := Lib.hid (HX1.out.below hb)
  have HB2 := Lib.hid (Below.then HB1.out hb)
  clear hb HX1 HB1 y0_1 y1_1
  have y0_2 := HX2.out.1
  have y1_2 := HX2.out.2
  rw [q1]
  go_wp2_with fail
  refine (balance_any s _ xs _ ws b _ (HR.out.below HB2.out) (HW.out.below HB2.out) q0 (by omega) (by omega)).mono ?_
  rintro e w3 ⟨rfl, hb⟩
  have HX3 := Lib.hid (HX2.out.below hb)
  have HB3 := Lib.hid (Below.then HB2.out hb)
  clear hb HX2 HB2 y0_2 y1_2
  have y0_3 := HX3.out.1
  have y1_3 := HX3.out.2
  go_wp2
  go_ret
  exact ⟨ret_int (by simp [balOfI, q0, q1]), HB3.out⟩

set_option maxHeartbeats 1000000 in
theorem implIsSafe (s : Int) (sl : Value) (xs : List Int) (wv : Value) (ws : List Int) (w : World) (h : Rd w sl xs) (h2 : Rd w wv ws) :
    Calls Try.prog 22 #[.agg #[.int .i64 s, sl], wv] w fun e w' => e = .returned (.bool (safeB s xs ws)) ∧ Below w.heap.size w w' := by
  have HR := Lib.hid h
  have HW := Lib.hid h2
  obtain ⟨A, c, rfl, -, -, -⟩ := h
  obtain ⟨B, d, rfl, -, hm, -⟩ := h2
  unfold maxLen at hm
  rcases q0 : stratB s xs ws with _ | _
  case false =>
    go_enter Try.func22, Try.ntmps22
    go_wp2_with fail
    have b0 := below_alloc1 w (.cells #[.int .i64 s, .slice A xs.length c] 28)
    have x0 := TBox.new w s (.slice A xs.length c) 28
    generalize w.alloc (.cells #[.int .i64 s, .slice A xs.length c] 28) = w0 at *
    have HX0 := Lib.hid x0
    have HB0 := Lib.hid b0
    clear x0 b0
    have y0_0 := HX0.out.1
    have y1_0 := HX0.out.2
    go_wp2_with fail
    refine (implStrat s _ xs _ ws _ (HR.out.below HB0.out) (HW.out.below HB0.out)).mono ?_
    rintro e w1 ⟨rfl, hb⟩
    have HX1 := Lib.hid (HX0.out.below hb)
    have HB1 := Lib.hid (Below.then HB0.out hb)
    clear hb HX0 HB0 y0_0 y1_0
    have y0_1 := HX1.out.1
    have y1_1 := HX1.out.2
    rw [q0]
    go_wp2
    go_ret
    exact ⟨ret_bool (by simp [safeB, *]), HB1.out⟩
  have hs := strat_dim q0
  go_enter Try.func22, Try.ntmps22
  go_wp2_with fail
  have b0 := below_alloc1 w (.cells #[.int .i64 s, .slice A xs.length c] 28)
  have x0 := TBox.new w s (.slice A xs.length c) 28
  generalize w.alloc (.cells #[.int .i64 s, .slice A xs.length c] 28) = w0 at *
  have HX0 := Lib.hid x0
  have HB0 := Lib.hid b0
  clear x0 b0
  have y0_0 := HX0.out.1
  have y1_0 := HX0.out.2
  go_wp2_with fail
  refine (implStrat s _ xs _ ws _ (HR.out.below HB0.out) (HW.out.below HB0.out)).mono ?_
  rintro e w1 ⟨rfl, hb⟩
  have HX1 := Lib.hid (HX0.out.below hb)
  have HB1 := Lib.hid (Below.then HB0.out hb)
  clear hb HX0 HB0 y0_0 y1_0
  have y0_1 := HX1.out.1
  have y1_1 := HX1.out.2
  rw [q0]
  have HS := Lib.hid hs.2.2.1
  go_wp2
  go_loopw [12] (fun i wr => ∃ k : Nat, k ≤ ws.length ∧ i = .int .i64 k ∧ Hid (∀ b, b < k → 0 ≤ balI xs ws b) ∧ Below w.heap.size w wr ∧ TBox wr w.heap.size s (.slice A xs.length c)) (fun i _ => ws.length - (intOf i).toNat)
  case atStart => exact ⟨0, by omega, rfl, fun _ h => absurd h (by omega), HB1.out, HX1.out⟩
  case round =>
    obtain ⟨k, hk, rfl, HP, hb, hx⟩ := hrel
    have HB2 := Lib.hid hb
    have HX2 := Lib.hid hx
    have y0_2 := hx.1
    have y1_2 := hx.2
    clear hx hb HB1 HX1 y0_1 y1_1
    by_cases hlt : k < ws.length
    · have hbd := balI_bd q0 k
      go_wp2_with fail
      refine (balance_any s _ xs _ ws k _ (HR.out.below HB2.out) (HW.out.below HB2.out) q0 (by omega) (by omega)).mono ?_
      rintro e w3 ⟨rfl, hb⟩
      have HX3 := Lib.hid (HX2.out.below hb)
      have HB3 := Lib.hid (Below.then HB2.out hb)
      clear hb HX2 HB2 y0_2 y1_2
      have y0_3 := HX3.out.1
      have y1_3 := HX3.out.2
      rw [show ((k : Int)).toNat = k from rfl]
      rcases q2 : decide (balI xs ws k < 0) with _ | _
      · have hp := of_decide_eq_false q2
        go_wp2
        go_roundw
        case rel =>
          refine ⟨k + 1, by omega, by go_num, fun b hb => ?_, HB3.out, HX3.out⟩
          by_cases hbk : b < k
          · exact HP.out b hbk
          · obtain rfl : b = k := by omega
            omega
        case measure => simp [intOf]; omega
      · have hp := of_decide_eq_true q2
        go_wp2
        go_ret
        exact ⟨ret_bool (by rw [safeB, q0, safeK_no hlt hp]; rfl), HB3.out⟩
    · obtain rfl : k = ws.length := by omega
      go_wp2
      go_ret
      exact ⟨ret_bool (by rw [safeB, q0, safeK_true.2 HP.out]; rfl), HB2.out⟩
set_option maxHeartbeats 1000000 in
theorem l10Safe_any (s : Int) (sl : Value) (xs : List Int) (wv : Value) (ws : List Int) (w : World) (h : Rd w sl xs) (h2 : Rd w wv ws) (q0 : stratB s xs ws = true) :
    Calls Try.prog 70 #[.agg #[.int .i64 s, sl], wv] w fun e w' => e = .returned (.bool (safeK xs ws ws.length)) ∧ Below w.heap.size w w' := by
  have HR := Lib.hid h
  have HW := Lib.hid h2
  obtain ⟨A, c, rfl, -, -, -⟩ := h
  obtain ⟨B, d, rfl, -, hm, -⟩ := h2
  unfold maxLen at hm
  have hs := strat_dim q0
  have HS := Lib.hid hs.2.2.1
  go_enter Try.func70, Try.ntmps70
  go_wp2_with fail
  have b0 := below_alloc1 w (.cells #[.int .i64 s, .slice A xs.length c] 28)
  have x0 := TBox.new w s (.slice A xs.length c) 28
  generalize w.alloc (.cells #[.int .i64 s, .slice A xs.length c] 28) = w0 at *
  have HX0 := Lib.hid x0
  have HB0 := Lib.hid b0
  clear x0 b0
  have y0_0 := HX0.out.1
  have y1_0 := HX0.out.2
  go_wp2
  go_loopw [8] (fun i wr => ∃ k : Nat, k ≤ ws.length ∧ i = .int .i64 k ∧ Hid (∀ b, b < k → 0 ≤ balI xs ws b) ∧ Below w.heap.size w wr ∧ TBox wr w.heap.size s (.slice A xs.length c)) (fun i _ => ws.length - (intOf i).toNat)
  case atStart => exact ⟨0, by omega, rfl, fun _ h => absurd h (by omega), HB0.out, HX0.out⟩
  case round =>
    obtain ⟨k, hk, rfl, HP, hb, hx⟩ := hrel
    have HB2 := Lib.hid hb
    have HX2 := Lib.hid hx
    have y0_2 := hx.1
    have y1_2 := hx.2
    clear hx hb HB0 HX0 y0_0 y1_0
    by_cases hlt : k < ws.length
    · have hbd := balI_bd q0 k
      go_wp2_with fail
      refine (l10Balance_any s _ xs _ ws k _ (HR.out.below HB2.out) (HW.out.below HB2.out) q0 (by omega) (by omega)).mono ?_
      rintro e w3 ⟨rfl, hb⟩
      have HX3 := Lib.hid (HX2.out.below hb)
      have HB3 := Lib.hid (Below.then HB2.out hb)
      clear hb HX2 HB2 y0_2 y1_2
      have y0_3 := HX3.out.1
      have y1_3 := HX3.out.2
      rw [show ((k : Int)).toNat = k from rfl]
      rcases q2 : decide (balI xs ws k < 0) with _ | _
      · have hp := of_decide_eq_false q2
        go_wp2
        go_roundw
        case rel =>
          refine ⟨k + 1, by omega, by go_num, fun b hb => ?_, HB3.out, HX3.out⟩
          by_cases hbk : b < k
          · exact HP.out b hbk
          · obtain rfl : b = k := by omega
            omega
        case measure => simp [intOf]; omega
      · have hp := of_decide_eq_true q2
        go_wp2
        go_ret
        exact ⟨ret_bool (by rw [safeK_no hlt hp]), HB3.out⟩
    · obtain rfl : k = ws.length := by omega
      go_wp2
      go_ret
      exact ⟨ret_bool (by rw [safeK_true.2 HP.out]), HB2.out⟩

set_option maxHeartbeats 1000000 in
theorem implBest (s : Int) (sl : Value) (xs : List Int) (wv : Value) (ws : List Int) (w : World) (h : Rd w sl xs) (h2 : Rd w wv ws) :
    Calls Try.prog 30 #[.agg #[.int .i64 s, sl], wv] w fun e w' => e = .returned (.int .i64 (bestI s xs ws)) ∧ Below w.heap.size w w' := by
  have HR := Lib.hid h
  have HW := Lib.hid h2
  obtain ⟨A, c, rfl, -, -, -⟩ := h
  obtain ⟨B, d, rfl, -, hm, -⟩ := h2
  unfold maxLen at hm
  rcases q0 : stratB s xs ws with _ | _
  case false =>
    go_enter Try.func30, Try.ntmps30
    go_wp2_with fail
    have b0 := below_alloc1 w (.cells #[.int .i64 s, .slice A xs.length c] 28)
    have x0 := TBox.new w s (.slice A xs.length c) 28
    generalize w.alloc (.cells #[.int .i64 s, .slice A xs.length c] 28) = w0 at *
    have HX0 := Lib.hid x0
    have HB0 := Lib.hid b0
    clear x0 b0
    have y0_0 := HX0.out.1
    have y1_0 := HX0.out.2
    go_wp2_with fail
    refine (implStrat s _ xs _ ws _ (HR.out.below HB0.out) (HW.out.below HB0.out)).mono ?_
    rintro e w1 ⟨rfl, hb⟩
    have HX1 := Lib.hid (HX0.out.below hb)
    have HB1 := Lib.hid (Below.then HB0.out hb)
    clear hb HX0 HB0 y0_0 y1_0
    have y0_1 := HX1.out.1
    have y1_1 := HX1.out.2
    rw [q0]
    go_wp2
    go_ret
    exact ⟨ret_int (by simp [bestI, *]), HB1.out⟩
  have hs := strat_dim q0
  go_enter Try.func30, Try.ntmps30
  go_wp2_with fail
  have b0 := below_alloc1 w (.cells #[.int .i64 s, .slice A xs.length c] 28)
  have x0 := TBox.new w s (.slice A xs.length c) 28
  generalize w.alloc (.cells #[.int .i64 s, .slice A xs.length c] 28) = w0 at *
  have HX0 := Lib.hid x0
  have HB0 := Lib.hid b0
  clear x0 b0
  have y0_0 := HX0.out.1
  have y1_0 := HX0.out.2
  go_wp2_with fail
  refine (implStrat s _ xs _ ws _ (HR.out.below HB0.out) (HW.out.below HB0.out)).mono ?_
  rintro e w1 ⟨rfl, hb⟩
  have HX1 := Lib.hid (HX0.out.below hb)
  have HB1 := Lib.hid (Below.then HB0.out hb)
  clear hb HX0 HB0 y0_0 y1_0
  have y0_1 := HX1.out.1
  have y1_1 := HX1.out.2
  rw [q0]
  have HS := Lib.hid hs.2.2.1
  go_wp2
  go_loopw [5, 13] (fun u i wr => ∃ k : Nat, k ≤ ws.length ∧ i = .int .i64 k ∧ u = .int .i64 (bestN xs ws k : Nat) ∧ Below w.heap.size w wr ∧ TBox wr w.heap.size s (.slice A xs.length c)) (fun _ i _ => ws.length - (intOf i).toNat)
  case atStart => exact ⟨0, by omega, rfl, rfl, HB1.out, HX1.out⟩
  case round =>
    obtain ⟨k, hk, rfl, rfl, hb, hx⟩ := hrel
    have HB0 := Lib.hid hb
    have y0_0 := hx.1
    have y1_0 := hx.2
    have hlb := bestN_lt xs ws k
    have hst : Hid (bestN xs ws (k + 1) = if balI xs ws k < balI xs ws (bestN xs ws k) then k else bestN xs ws k) := rfl
    have HX0 := Lib.hid hx
    clear hx hb HB1 HX1 y0_1 y1_1
    generalize hbm : bestN xs ws k = m at *
    by_cases hlt : k < ws.length
    · have hbd := balI_bd q0 k
      have hbd2 := balI_bd q0 m
      have k1 := quiet_below (w := wr) (fun W hW => balance_any s (.slice A xs.length c) xs _ ws k W ((HR.out.below HB0.out).below hW) ((HW.out.below HB0.out).below hW) q0 (by omega) (by omega))
      have k2 := quiet_below (w := wr) (fun W hW => balance_any s (.slice A xs.length c) xs _ ws m W ((HR.out.below HB0.out).below hW) ((HW.out.below HB0.out).below hW) q0 (by omega) (by omega))
      rw [show ((k : Int)).toNat = k from rfl] at k1
      rw [show ((m : Int)).toNat = m from rfl] at k2
      clear hbm
      rcases q2 : decide (balI xs ws k < balI xs ws m) with _ | _
      · have hp := of_decide_eq_false q2
        go_wp2_with fail
        have y0_q := cell_regrown y0_0
        have y1_q := cell_regrown y1_0
        clear y0_0 y1_0
        refine wp_region_below (by kernel_rfl) (by kernel_rfl) ?_
        repeat (go_big_quiet_step (first | (with_reducible exact k1 _ _) | (with_reducible exact k2 _ _)))
        refine wpQuiet_nil ?_
        intro wq hbq0
        have hbq := Lib.hid hbq0
        clear hbq0
        clear y0_q y1_q
        go_wp2
        go_roundw
        case rel => exact ⟨k + 1, by omega, by go_num, by rw [hst.out, if_neg (by omega)], Below.then HB0.out hbq.out, HX0.out.below hbq.out⟩
        case measure => simp [intOf]; omega
      · have hp := of_decide_eq_true q2
        go_wp2_with fail
        have y0_q := cell_regrown y0_0
        have y1_q := cell_regrown y1_0
        clear y0_0 y1_0
        refine wp_region_below (by kernel_rfl) (by kernel_rfl) ?_
        repeat (go_big_quiet_step (first | (with_reducible exact k1 _ _) | (with_reducible exact k2 _ _)))
        refine wpQuiet_nil ?_
        intro wq hbq0
        have hbq := Lib.hid hbq0
        clear hbq0
        clear y0_q y1_q
        go_wp2
        go_roundw
        case rel => exact ⟨k + 1, by omega, by go_num, by rw [hst.out, if_pos hp], Below.then HB0.out hbq.out, HX0.out.below hbq.out⟩
        case measure => simp [intOf]; omega
    · obtain rfl : k = ws.length := by omega
      go_wp2
      go_ret
      exact ⟨ret_int (by rw [bestI, q0, hbm]; rfl), HB0.out⟩
end Go.Proofs.Ytajeledbmnndmaa

namespace Go.Proofs.Ytajeledbmnndmaa
open Go.RowKit Go.Sort

set_option maxHeartbeats 400000 in
theorem szIntS_any (v : Value) (xs : List Int) (left : Int) (w : World) (h : Rd w v xs) (h0 : 0 ≤ left) (h1 : left ≤ 16777216) :
    Calls Try.prog 64 #[v, .int .i64 left] w fun e w' => e = .returned (.int .i64 (szI xs.length left)) ∧ Below w.heap.size w w' := by
  obtain ⟨A, c, rfl, hl1, hm1, -⟩ := h
  unfold maxLen at hm1
  by_cases hz : 0 ≤ left - (xs.length : Int)
  all_goals
    go_enter Try.func64, Try.ntmps64
    go_wp2
    go_ret
    first
      | exact ⟨ret_int (szI_yes hz).symm, Below.refl _ _⟩
      | exact ⟨ret_int (szI_no (by omega)).symm, Below.refl _ _⟩
set_option maxHeartbeats 400000 in
theorem szTour_any (s : Int) (sl : Value) (xs : List Int) (left : Int) (w : World) (h : Rd w sl xs) (h0 : 0 ≤ left) (h1 : left ≤ 16777216) :
    Calls Try.prog 9 #[.agg #[.int .i64 s, sl], .int .i64 left] w fun e w' => e = .returned (.int .i64 (szI xs.length left)) ∧ Below w.heap.size w w' := by
  have HR := Lib.hid h
  obtain ⟨A, c, rfl, -, -, -⟩ := h
  by_cases hz : 0 ≤ left - (xs.length : Int)
  all_goals
    go_enter Try.func9, Try.ntmps9
    go_wp2_with fail
    refine (szIntS_any _ xs left _ (HR.out.alloc _) h0 h1).mono ?_
    rintro e w1 ⟨rfl, hb⟩
    have HB := Lib.hid (Below.then (below_alloc1 _ _) hb)
    clear hb
    first | rw [szI_yes (by omega)] | rw [szI_no (by omega)]
    go_wp2
    go_ret
    first
      | exact ⟨ret_int (szI_yes (by omega)).symm, HB.out⟩
      | exact ⟨ret_int (szI_no (by omega)).symm, HB.out⟩
set_option maxHeartbeats 400000 in
theorem toTour_any (s : Int) (sl : Value) (xs : List Int) (w : World) (h : Rd w sl xs) (hlen : xs.length ≤ 2097152) :
    Calls Try.prog 11 #[.agg #[.int .i64 s, sl]] w fun e w' => ∃ sl', e = .returned (.agg #[.int .i64 s, sl']) ∧ Own w' w.heap.size sl' xs ∧ Below w.heap.size w w' := by
  have HR := Lib.hid h
  obtain ⟨A, c, rfl, -, -, -⟩ := h
  go_enter Try.func11, Try.ntmps11
  go_wp2_with fail
  refine (toIntS_any _ xs _ (((HR.out.alloc _).alloc _).alloc _) hlen).mono ?_
  rintro e w1 ⟨sl', rfl, ho, hb⟩
  obtain ⟨A', c', rfl, -, -, -⟩ := ho.form
  have hs := hb.size
  simp at hs
  obtain ⟨hc, hf⟩ := bcell hb
  have HB := Lib.hid hb
  have HO := Lib.hid ho
  have F1 : ∀ o, w1.cell? ⟨w.heap.size + 1, o, none⟩ = _ := fun o => hc _ _ (by simp)
  have F2 : ∀ o, w1.cell? ⟨w.heap.size + 1 + 1, o, none⟩ = _ := fun o => hc _ _ (by simp)
  have G1 : ∀ o, w1.frozen? ⟨w.heap.size + 1, o, none⟩ = _ := fun o => hf _ _ (by simp)
  have G2 : ∀ o, w1.frozen? ⟨w.heap.size + 1 + 1, o, none⟩ = _ := fun o => hf _ _ (by simp)
  clear hb ho hc hf
  go_wp2
  have q0 : w1.cell? ⟨w.heap.size + 1, 0, none⟩ = some (.int .i64 0) := (F1 0).trans (by simp [go_sem])
  have q1 : w1.cell? ⟨w.heap.size + 1, 1, none⟩ = some (.slice none 0 0) := (F1 1).trans (by simp [go_sem])
  have RB := read_back (w1 := w1) (g := w.heap.size + 1) (h := w.heap.size + 1 + 1) (by omega) q0 q1 (u := .int .i64 s) (v := .slice A' xs.length c') (z := .slice A' xs.length c')
  obtain ⟨r0, r1⟩ := RB
  have hb' := HB.out
  have hlt : ∀ k, (Value.slice A' xs.length c').ownBlock = some k → w.heap.size + 1 + 1 + 1 ≤ k := fun k hk => by have := (HO.out.lt k hk).1; simp at this; omega
  have e1 : Below w.heap.size w w1 := Below.then (((below_alloc1 _ _).alloc (by simp) _).alloc (by simp; omega) _) hb'
  have ho1 := ((HO.out.kept (setCell_grown w1 ⟨w.heap.size + 1 + 1, 1, none⟩ (.slice A' xs.length c')) (own_ne hlt (by simp; try omega))).kept (setCell_grown _ ⟨w.heap.size + 1, 0, none⟩ (.int .i64 s)) (own_ne hlt (by simp; try omega))).kept (setCell_grown _ ⟨w.heap.size + 1, 1, none⟩ (.slice A' xs.length c')) (own_ne hlt (by simp; try omega))
  have e2 := ((e1.setCell (p := ⟨w.heap.size + 1 + 1, 1, none⟩) (by simp; omega) (.slice A' xs.length c')).setCell (p := ⟨w.heap.size + 1, 0, none⟩) (by simp) (.int .i64 s)).setCell (p := ⟨w.heap.size + 1, 1, none⟩) (by simp) (.slice A' xs.length c')
  refine bodyPost_ret (v := .agg #[.int .i64 s, .slice A' xs.length c']) (by simp only [results, Try.results11]; simp [go_sem, r0, r1]) rfl ⟨_, rfl, ho1.mono (by simp; omega), e2⟩
set_option maxHeartbeats 400000 in
theorem eqTour_refl (s : Int) (v1 v2 : Value) (xs : List Int) (w : World) (h1 : Rd w v1 xs) (h2 : Rd w v2 xs) :
    Calls Try.prog 14 #[.agg #[.int .i64 s, v1], .agg #[.int .i64 s, v2]] w fun e w' => e = .returned (.bool true) ∧ Below w.heap.size w w' := by
  have H1 := Lib.hid h1
  have H2 := Lib.hid h2
  obtain ⟨A, c, rfl, -, -, -⟩ := h1
  obtain ⟨B, d, rfl, -, -, -⟩ := h2
  have hne : (s != s) = false := by simp
  go_enter Try.func14, Try.ntmps14
  go_wp2_with fail
  refine (of_drew (eqIntS_refl _ _ xs _ ((H1.out.alloc _).alloc _) ((H2.out.alloc _).alloc _))).mono ?_
  rintro e w1 ⟨rfl, hb⟩
  have HB := Lib.hid (Below.then ((below_alloc1 _ _).alloc (by simp) _) hb)
  clear hb
  go_wp2
  go_ret
  exact ⟨rfl, HB.out⟩
end Go.Proofs.Ytajeledbmnndmaa

