/- Texts put together: Rnm, Ways, Reach, Climb, TrP, FmP, LwS, RowsL, TrC0, Pow, Defeat, ScsOf, ScN, Dfs. -/
import Derived.Test.YtbkiedhaacapbaaDoorMTours04
import Derived.Test.YtbkiedhaacapbaaDoorMTours03
import Derived.Test.YtbkiedhaacapbaaDoorMTours02
import Derived.Test.YtbkiedhaacapbaaDoorMTours01
import Derived.Maps.AppendAt
import Derived.Deep.RegionHeld3
namespace Go.Proofs.YtbkiedhaacapbaaDoor
open Go.RowKit Go.Sort
set_option maxRecDepth 100000

/-! renamed tours -/
abbrev bt (xs : List Int) (a b : Nat) : Bool := (winsN xs a).testBit b
theorem nm_list {n : Nat} (f : Nat → Nat) {a : Nat} (h : a < n) : nmN ((List.range n).map fun a => (f a : Int)) a = f a := by
  unfold nmN; simp [h]
theorem perm_list {n : Nat} (f : Nat → Nat) (h1 : ∀ a, a < n → f a < n) (h2 : ∀ a b, a < n → b < n → f a = f b → a = b) : PermP n ((List.range n).map fun a => (f a : Int)) := by
  refine ⟨by simp, fun x hx => ?_, ?_⟩
  · obtain ⟨a, ha, rfl⟩ := List.mem_map.1 hx
    rw [List.mem_range] at ha
    have := h1 a ha
    omega
  · unfold List.Nodup
    rw [List.pairwise_iff_getElem]
    intro i j hi hj hij e
    simp only [List.length_map, List.length_range] at hi hj
    simp only [List.getElem_map, List.getElem_range] at e
    have := h2 i j hi hj (by exact_mod_cast e)
    omega
open Classical in
noncomputable def invF (n : Nat) (ns : List Int) (i : Nat) : Nat := if h : ∃ a, a < n ∧ nmN ns a = i then Classical.choose h else 0
theorem inv_spec {n : Nat} {ns : List Int} (hP : PermP n ns) {i : Nat} (hi : i < n) : invF n ns i < n ∧ nmN ns (invF n ns i) = i := by
  have hx := nm_surj hP hi
  unfold invF
  rw [dif_pos hx]
  exact Classical.choose_spec hx
theorem inv_nm {n : Nat} {ns : List Int} (hP : PermP n ns) {a : Nat} (ha : a < n) : invF n ns (nmN ns a) = a := by
  have h := inv_spec hP (nm_val hP ha).2
  exact nm_inj hP h.1 ha h.2
theorem rn_exists {xs ns : List Int} {n : Nat} (hn : xs.length = n) (hP : PermP n ns) : rnF xs ns n (rnL xs ns) n 0 := by
  have h : rnF xs ns n ((List.range n).map fun i => ((setOf (fun j => bt xs (invF n ns i) (invF n ns j)) n : Nat) : Int)) n 0 := by
    have e : ∀ i, i < n → ((List.range n).map fun i => ((setOf (fun j => bt xs (invF n ns i) (invF n ns j)) n : Nat) : Int)).getD i 0 = ((setOf (fun j => bt xs (invF n ns i) (invF n ns j)) n : Nat) : Int) := fun i hi => by simp [hi]
    refine ⟨by simp, fun i hi => ⟨_, e i hi, setOf_lt _ _⟩, fun p q hp hq => ?_⟩
    rw [e _ (nm_val hP hp).2]
    show (setOf (fun j => bt xs (invF n ns (nmN ns p)) (invF n ns j)) n).testBit (nmN ns q) = _
    rw [testBit_setOf, inv_nm hP hp, inv_nm hP hq]
    simp [hp, (nm_val hP hq).2]
  have e := rnL_eq hn hP h
  rw [e] at h
  exact h
theorem rn_len {xs ns : List Int} {n : Nat} (hn : xs.length = n) (hP : PermP n ns) : (rnL xs ns).length = n := (rn_exists hn hP).1
theorem rn_bit {xs ns : List Int} {n : Nat} (hn : xs.length = n) (hP : PermP n ns) {p q : Nat} (hp : p < n) (hq : q < n) : bt (rnL xs ns) (nmN ns p) (nmN ns q) = bt xs p q := by
  have := (rn_exists hn hP).2.2 p q hp hq
  unfold bt winsN at *
  rw [this]
  simp [hp]
theorem rn_of {xs ns N : List Int} {n : Nat} (hn : xs.length = n) (hP : PermP n ns) (h1 : N.length = n) (h2 : ∀ i, i < n → ∃ S : Nat, N.getD i 0 = (S : Int) ∧ S < 2 ^ n) (h3 : ∀ p q, p < n → q < n → bt N (nmN ns p) (nmN ns q) = bt xs p q) : N = rnL xs ns :=
  rnL_eq hn hP ⟨h1, h2, fun p q hp hq => by
    have := h3 p q hp hq
    unfold bt winsN at *
    rw [this]; simp [hp]⟩
theorem rn_small {xs ns : List Int} {n : Nat} (hn : xs.length = n) (hP : PermP n ns) {i : Nat} (hi : i < n) : ∃ S : Nat, (rnL xs ns).getD i 0 = (S : Int) ∧ S < 2 ^ n := (rn_exists hn hP).2.1 i hi
/-- one renaming behind another -/
theorem rn_comp {xs p q : List Int} {n : Nat} (hn : xs.length = n) (hP : PermP n p) (hQ : PermP n q) : ∃ r, PermP n r ∧ rnL (rnL xs p) q = rnL xs r := by
  refine ⟨(List.range n).map fun a => ((nmN q (nmN p a) : Nat) : Int), perm_list _ (fun a ha => (nm_val hQ (nm_val hP ha).2).2) (fun a b ha hb e => nm_inj hP ha hb (nm_inj hQ (nm_val hP ha).2 (nm_val hP hb).2 e)), ?_⟩
  refine rn_of hn (perm_list _ (fun a ha => (nm_val hQ (nm_val hP ha).2).2) (fun a b ha hb e => nm_inj hP ha hb (nm_inj hQ (nm_val hP ha).2 (nm_val hP hb).2 e))) (rn_len (rn_len hn hP) hQ) (fun i hi => rn_small (rn_len hn hP) hQ hi) fun a b ha hb => ?_
  rw [nm_list _ ha, nm_list _ hb, rn_bit (rn_len hn hP) hQ (nm_val hP ha).2 (nm_val hP hb).2, rn_bit hn hP ha hb]
/-- what is asked of a list that is a tour, bit by bit -/
theorem tour_bits {s : Int} {xs : List Int} (hp : tourP s xs) : (∀ i, i < xs.length → ∃ S : Nat, xs.getD i 0 = (S : Int) ∧ S < 2 ^ xs.length) ∧ (∀ a, a < xs.length → bt xs a a = false) ∧ (∀ a b, a < xs.length → b < xs.length → a ≠ b → bt xs a b = !bt xs b a) := by
  have hs := hp.2.1
  have hsn : s.toNat = xs.length := by omega
  refine ⟨fun i hi => ?_, fun a ha => ?_, fun a b ha hb hab => ?_⟩
  · have := tour_wins hp hi
    rw [hsn] at this
    exact ⟨_, this.1, this.2.1⟩
  · have := (hp.2.2.2 a ha).1
    rw [bit_nat hp ha] at this
    exact this
  · have key : ∀ a b, a < xs.length → b < xs.length → b < a → bt xs a b = !bt xs b a := fun a b ha hb h => by
      have := (hp.2.2.2 a ha).2 b h
      rw [bit_nat hp ha, bit_nat hp hb] at this
      show (winsN xs a).testBit b = !(winsN xs b).testBit a
      revert this
      cases (winsN xs a).testBit b <;> cases (winsN xs b).testBit a <;> simp
    rcases Nat.lt_or_gt_of_ne hab with h | h
    · rw [key b a hb ha h]; simp
    · exact key a b ha hb h
theorem bitI_bt {xs : List Int} {a b S : Nat} (h : xs.getD a 0 = (S : Int)) : bitI (xs.getD a 0) b = bt xs a b := by
  unfold bt winsN
  rw [h]
  show bitI (S : Int) b = S.testBit b
  unfold bitI
  rw [Nat.testBit_eq_decide_div_mod_eq, decide_eq_decide]
  have : (S : Int) / 2 ^ b % 2 = ((S / 2 ^ b % 2 : Nat) : Int) := by simp
  rw [this]; omega
theorem tour_of_bits {s : Int} {xs : List Int} (h1 : 1 ≤ s ∧ s ≤ 8) (h2 : (xs.length : Int) = s) (hb : ∀ i, i < xs.length → ∃ S : Nat, xs.getD i 0 = (S : Int) ∧ S < 2 ^ xs.length) (hd : ∀ a, a < xs.length → bt xs a a = false) (hx : ∀ a b, a < xs.length → b < xs.length → a ≠ b → bt xs a b = !bt xs b a) : tourP s xs := by
  refine ⟨h1, h2, fun x hx => ?_, fun a ha => ⟨?_, fun b hb' => ?_⟩⟩
  · obtain ⟨i, hi, rfl⟩ := List.getElem_of_mem hx
    obtain ⟨S, e, hS⟩ := hb i hi
    rw [show xs.getD i 0 = xs[i] by simp [hi]] at e
    rw [e, show s.toNat = xs.length by omega]
    have : ((2 : Int) ^ xs.length) = ((2 ^ xs.length : Nat) : Int) := by simp
    rw [this]; omega
  · obtain ⟨S, e, -⟩ := hb a ha
    rw [bitI_bt e]; exact hd a ha
  · obtain ⟨S, e, -⟩ := hb a ha
    obtain ⟨T, e', -⟩ := hb b (by omega)
    rw [bitI_bt e, bitI_bt e', hx a b ha (by omega) (by omega)]
    cases bt xs b a <;> simp
theorem rn_tour {s : Int} {xs ns : List Int} (hp : tourP s xs) (hP : PermP xs.length ns) : tourP s (rnL xs ns) := by
  have hl := rn_len rfl hP
  have hb := tour_bits hp
  refine tour_of_bits hp.1 (by rw [hl]; exact hp.2.1) (fun i hi => ?_) (fun a ha => ?_) (fun a b ha hb' hab => ?_)
  · rw [hl] at hi ⊢; exact rn_small rfl hP hi
  · rw [hl] at ha
    obtain ⟨p, hp', rfl⟩ := nm_surj hP ha
    rw [rn_bit rfl hP hp' hp']; exact hb.2.1 p hp'
  · rw [hl] at ha hb'
    obtain ⟨p, hp', rfl⟩ := nm_surj hP ha
    obtain ⟨q, hq', rfl⟩ := nm_surj hP hb'
    rw [rn_bit rfl hP hp' hq', rn_bit rfl hP hq' hp']
    exact hb.2.2 p q hp' hq' (fun e => hab (by rw [e]))
def idL (n : Nat) : List Int := (List.range n).map fun (a : Nat) => (a : Int)
theorem id_perm (n : Nat) : PermP n (idL n) := perm_list (fun a => a) (fun _ h => h) (fun _ _ _ _ h => h)
theorem rn_id {s : Int} {xs : List Int} (hp : tourP s xs) : rnL xs (idL xs.length) = xs := by
  refine (rn_of rfl (id_perm _) rfl (tour_bits hp).1 fun p q hp' hq => ?_).symm
  have e := fun {a : Nat} (h : a < xs.length) => nm_list (n := xs.length) (fun a => a) h
  unfold idL
  rw [e hp', e hq]
/-- back -/
theorem rn_back {s : Int} {xs p : List Int} (hp : tourP s xs) (hP : PermP xs.length p) : ∃ r, PermP xs.length r ∧ rnL (rnL xs p) r = xs := by
  have hl := rn_len rfl hP
  have hQ : PermP xs.length ((List.range xs.length).map fun i => ((invF xs.length p i : Nat) : Int)) := perm_list _ (fun a ha => (inv_spec hP ha).1) (fun a b ha hb e => by
    rw [← (inv_spec hP ha).2, ← (inv_spec hP hb).2, e])
  refine ⟨_, hQ, ?_⟩
  refine (rn_of hl hQ rfl (tour_bits hp).1 fun a b ha hb => ?_).symm
  rw [nm_list _ ha, nm_list _ hb]
  have h1 := inv_spec hP ha
  have h2 := inv_spec hP hb
  have := rn_bit rfl hP h1.1 h2.1
  rw [h1.2, h2.2] at this
  exact this.symm
end Go.Proofs.YtbkiedhaacapbaaDoor

namespace Go.Proofs.YtbkiedhaacapbaaDoor
open Go.RowKit Go.Sort

/-- the ways from a through all of S -/
def waysN (xs : List Int) (n : Nat) : Nat → Nat → Nat → Nat
  | 0, _, _ => 1
  | f + 1, S, a => if S = 0 then 1 else ((memN (S &&& winsN xs a) n).map fun b => waysN xs n f (less S (2 ^ b)) b).sum
theorem memN_nodup (S n : Nat) : (memN S n).Nodup := List.Pairwise.filter _ List.nodup_range
theorem memN_less (S n b : Nat) : memN (less S (2 ^ b)) n = (memN S n).filter (· != b) := by
  unfold memN
  rw [List.filter_filter]
  refine List.filter_congr fun x _ => ?_
  rw [testBit_less, Nat.testBit_two_pow, Bool.and_comm]
  congr 1
  by_cases e : b = x
  · subst e; simp
  · have : ¬ x = b := fun h => e h.symm
    simp [e, this]
theorem card_less {S n b : Nat} (h : b ∈ memN S n) : (memN (less S (2 ^ b)) n).length + 1 = (memN S n).length := by
  rw [memN_less, ← (memN_nodup S n).erase_eq_filter, List.length_erase_of_mem h]
  have := List.length_pos_of_mem h
  omega
theorem card_zero {S n : Nat} (hS : S < 2 ^ n) : (memN S n).length = 0 ↔ S = 0 := by
  constructor
  · intro h
    have h0 : memN S n = [] := List.length_eq_zero_iff.1 h
    apply Nat.eq_of_testBit_eq
    intro j
    rw [Nat.zero_testBit]
    rcases Nat.lt_or_ge j n with hj | hj
    · rcases hb : S.testBit j with _ | _
      · rfl
      · have : j ∈ memN S n := mem_memN.2 ⟨hj, hb⟩
        rw [h0] at this; cases this
    · exact Nat.testBit_lt_two_pow (Nat.lt_of_lt_of_le hS (Nat.pow_le_pow_right (by decide) hj))
  · rintro rfl
    simp [memN]
theorem sum_le {l : List Nat} {F : Nat → Nat} {B : Nat} (h : ∀ b ∈ l, F b ≤ B) : (l.map F).sum ≤ l.length * B := by
  induction l with
  | nil => simp
  | cons b l ih =>
    rw [List.map_cons, List.sum_cons, List.length_cons, Nat.succ_mul]
    have := h b (by simp)
    have := ih fun c hc => h c (by simp [hc])
    omega
theorem waysN_le (xs : List Int) (n : Nat) (hn : n ≤ 8) (f S a : Nat) (hf : (memN S n).length ≤ f) : waysN xs n f S a ≤ 8 ^ (memN S n).length := by
  induction f generalizing S a with
  | zero => simp only [waysN]; exact Nat.one_le_pow _ _ (by decide)
  | succ f ih =>
    simp only [waysN]
    split
    · exact Nat.one_le_pow _ _ (by decide)
    · have hmem : ∀ b ∈ memN (S &&& winsN xs a) n, b ∈ memN S n := fun b hb => by
        have := mem_memN.1 hb
        rw [Nat.testBit_and, Bool.and_eq_true] at this
        exact mem_memN.2 ⟨this.1, this.2.1⟩
      rcases hc : (memN S n).length with _ | c
      · have : memN (S &&& winsN xs a) n = [] := by
          rw [List.eq_nil_iff_forall_not_mem]
          intro b hb
          have := List.length_pos_of_mem (hmem b hb); omega
        rw [this]; simp
      · refine Nat.le_trans (sum_le (B := 8 ^ c) fun b hb => ?_) ?_
        · have h1 := card_less (hmem b hb)
          have := ih (less S (2 ^ b)) b (by omega)
          rwa [show (memN (less S (2 ^ b)) n).length = c by omega] at this
        · rw [Nat.pow_succ, Nat.mul_comm]
          exact Nat.mul_le_mul_left _ (Nat.le_trans (memN_len _ _) hn)
theorem sum_take {l : List Nat} {F : Nat → Nat} {k : Nat} (hk : k < l.length) : ((l.take (k + 1)).map F).sum = ((l.take k).map F).sum + F (l.getD k 0) := by
  rw [take_snocN hk, List.map_append, List.sum_append, getD_nat hk]; simp
noncomputable def waysI (s : Int) (xs : List Int) (a : Int) : Int := if (tourB s xs && inB a 0 (s - 1)) = true then (waysN xs xs.length 8 (less (2 ^ xs.length - 1) (2 ^ a.toNat)) a.toNat : Int) else -1
theorem wins_less {n S W : Nat} (hW : W < 2 ^ n) : less W (less (2 ^ n - 1) S) = S &&& W := Nat.eq_of_testBit_eq fun j => by
  rw [testBit_less, testBit_less, testBit_full, Nat.testBit_and]
  rcases Nat.lt_or_ge j n with hj | hj
  · simp only [hj, decide_true, Bool.true_and, Bool.not_not]
    rw [Bool.and_comm]
  · rw [Nat.testBit_lt_two_pow (Nat.lt_of_lt_of_le hW (Nat.pow_le_pow_right (by decide) hj))]; simp
theorem met_more {n S b : Nat} (hb : b < n) : less (2 ^ n - 1) S ||| 2 ^ b = less (2 ^ n - 1) (less S (2 ^ b)) := Nat.eq_of_testBit_eq fun j => by
  rw [Nat.testBit_or, testBit_less, testBit_less, testBit_less, testBit_full, Nat.testBit_two_pow]
  by_cases e : b = j
  · subst e; simp [hb]
  · simp [e]
theorem met_all {n S : Nat} (hS : S < 2 ^ n) : less (2 ^ n - 1) S = 2 ^ n - 1 ↔ S = 0 := by
  constructor
  · intro h
    apply Nat.eq_of_testBit_eq
    intro j
    rw [Nat.zero_testBit]
    rcases Nat.lt_or_ge j n with hj | hj
    · have := congrArg (fun x => Nat.testBit x j) h
      simp only [testBit_less, testBit_full, hj, decide_true, Bool.true_and] at this
      simpa using this
    · exact Nat.testBit_lt_two_pow (Nat.lt_of_lt_of_le hS (Nat.pow_le_pow_right (by decide) hj))
  · rintro rfl
    exact Nat.eq_of_testBit_eq fun j => by rw [testBit_less]; simp
theorem less_full_lt (n S : Nat) : less (2 ^ n - 1) S < 2 ^ n := less_lt (by have := Nat.two_pow_pos n; omega)
theorem sub_shl (U a : Nat) (hU : U < 256) (ha : a < 8) (h : U.testBit a = true) : wrap64 ((U : Int) - wrap64 (2 ^ a)) = ((less U (2 ^ a) : Nat) : Int) := by
  have h2 := sub_less (S := U) (a := a) (Nat.lt_trans hU (by decide)) (by omega) h
  have h3 : 2 ^ a ≤ U := Nat.ge_two_pow_of_testBit h
  have h5 : U - 2 ^ a < 9223372036854775808 := Nat.lt_of_le_of_lt (Nat.sub_le _ _) (by omega)
  rw [shl_nat a (by omega), ← h2, ← Int.natCast_sub h3]
  exact wrap64_nat _ h5
theorem less_less {n a : Nat} (h : a < n) : 2 ^ a = less (2 ^ n - 1) (less (2 ^ n - 1) (2 ^ a)) := Nat.eq_of_testBit_eq fun j => by
  rw [testBit_less, testBit_less, testBit_full, Nat.testBit_two_pow]
  by_cases e : a = j
  · subst e; simp [h]
  · simp [e]
end Go.Proofs.YtbkiedhaacapbaaDoor

namespace Go.Proofs.YtbkiedhaacapbaaDoor
open Go.RowKit Go.Sort

theorem orK_ge (xs : List Int) (l : List Nat) (S : Nat) : S ≤ orK xs l S := by
  induction l generalizing S with
  | nil => exact Nat.le_refl _
  | cons b l ih =>
    unfold orK
    rw [List.foldl_cons]
    exact Nat.le_trans Nat.left_le_or (ih _)
theorem orK_ltn {n : Nat} {xs : List Int} (hw : ∀ b, b < n → winsN xs b < 2 ^ n) {l : List Nat} (hl : ∀ b ∈ l, b < n) {S : Nat} (hS : S < 2 ^ n) : orK xs l S < 2 ^ n := by
  induction l generalizing S with
  | nil => exact hS
  | cons b l ih =>
    unfold orK
    rw [List.foldl_cons]
    exact ih (fun c hc => hl c (by simp [hc])) (Nat.or_lt_two_pow hS (hw b (hl b (by simp))))
/-- more and more that the found beat, until there is no more -/
def itN (xs : List Int) (n : Nat) : Nat → Nat → Nat
  | 0, S => S
  | f + 1, S => if orK xs (memN S n) S = S then S else itN xs n f (orK xs (memN S n) S)
theorem itN_stop {xs : List Int} {n f S : Nat} (h : orK xs (memN S n) S = S) : itN xs n f S = S := by
  cases f with
  | zero => rfl
  | succ f => simp [itN, h]
theorem itN_go {xs : List Int} {n f S : Nat} (h : ¬ orK xs (memN S n) S = S) (hf : 0 < f) : itN xs n f S = itN xs n (f - 1) (orK xs (memN S n) S) := by
  obtain ⟨f, rfl⟩ : ∃ g, f = g + 1 := ⟨f - 1, by omega⟩
  simp [itN, h]
def reachN (xs : List Int) (a : Nat) : Nat := itN xs xs.length 256 (2 ^ a)
noncomputable def reachI (s : Int) (xs : List Int) (a : Int) : Int := if (tourB s xs && inB a 0 (s - 1)) = true then (reachN xs a.toNat : Int) else 0
end Go.Proofs.YtbkiedhaacapbaaDoor

namespace Go.Proofs.YtbkiedhaacapbaaDoor
open Go.RowKit Go.Sort

theorem pop_mem {S : Nat} (h : S < 256) : popN 8 S = (memN S 8).length := by
  have : ∀ S : Fin 256, popN 8 S.1 = (memN S.1 8).length := by decide +kernel
  exact this ⟨S, h⟩
theorem card_mono {S T n : Nat} (h : ∀ j, S.testBit j = true → T.testBit j = true) : (memN S n).length ≤ (memN T n).length := by
  unfold memN
  rw [← List.countP_eq_length_filter, ← List.countP_eq_length_filter]
  exact List.countP_mono_left fun j _ hj => h j hj
theorem testBit_orK (xs : List Int) (l : List Nat) (S j : Nat) : (orK xs l S).testBit j = (S.testBit j || l.any fun b => (winsN xs b).testBit j) := by
  induction l generalizing S with
  | nil => simp [orK]
  | cons b l ih =>
    have : orK xs (b :: l) S = orK xs l (S ||| winsN xs b) := by simp [orK]
    rw [this, ih, Nat.testBit_or, List.any_cons, Bool.or_assoc]
theorem mem_loseN {xs : List Int} {a n b : Nat} : b ∈ loseN xs a n ↔ b < n ∧ bitI (xs.getD b 0) a = true := by simp [loseN]
/-- two players: one of them beats the other one, and not both -/
theorem beat_one {s : Int} {xs : List Int} (hp : tourP s xs) {a b : Nat} (ha : a < xs.length) (hb : b < xs.length) (hab : a ≠ b) : (winsN xs a).testBit b = !(winsN xs b).testBit a := by
  have h1 : ∀ a b, a < xs.length → b < a → (winsN xs a).testBit b ≠ (winsN xs b).testBit a := fun a b ha hb => by
    have := (hp.2.2.2 a ha).2 b hb
    rwa [bit_nat hp ha, bit_nat hp (by omega : b < xs.length)] at this
  rcases Nat.lt_or_gt_of_ne hab with h | h
  · have := h1 b a hb h
    revert this; cases (winsN xs a).testBit b <;> cases (winsN xs b).testBit a <;> simp
  · have := h1 a b ha h
    revert this; cases (winsN xs a).testBit b <;> cases (winsN xs b).testBit a <;> simp
theorem beat_self {s : Int} {xs : List Int} (hp : tourP s xs) {a : Nat} (ha : a < xs.length) : (winsN xs a).testBit a = false := by
  have := (hp.2.2.2 a ha).1
  rwa [bit_nat hp ha] at this
theorem wins_hi {s : Int} {xs : List Int} (hp : tourP s xs) {a b : Nat} (ha : a < xs.length) (hb : xs.length ≤ b) : (winsN xs a).testBit b = false := by
  have h1 := (tour_wins hp ha).2.1
  have h2 := hp.2.1
  exact Nat.testBit_lt_two_pow (Nat.lt_of_lt_of_le h1 (Nat.pow_le_pow_right (by decide) (by omega)))
theorem kstK_best {xs : List Int} {a : Nat} {l : List Nat} (ha : a ∉ l) :
    (l = [] ∧ kstK xs a l = a) ∨ (kstK xs a l ∈ l ∧ ∀ b ∈ l, popN 8 (winsN xs b) ≤ popN 8 (winsN xs (kstK xs a l))) := by
  rcases List.eq_nil_or_concat l with rfl | ⟨l', b, rfl⟩
  · exact .inl ⟨rfl, rfl⟩
  · right
    rw [List.concat_eq_append] at ha ⊢
    have hn : l'.length < (l' ++ [b]).length := by simp
    have ih := kstK_best (xs := xs) (a := a) (l := l') (fun h => ha (by simp [h]))
    have hb : a ≠ b := fun h => ha (by simp [h])
    rw [kstK_snoc]
    unfold stepF
    rcases ih with ⟨rfl, e⟩ | ⟨hm, hx⟩
    · rw [e]; simp
    · have hne : kstK xs a l' ≠ a := fun h => ha (by rw [h] at hm; simp [hm])
      split
      · rename_i h
        rcases h with h | h
        · exact absurd h hne
        · refine ⟨by simp, fun c hc => ?_⟩
          rw [List.mem_append, List.mem_singleton] at hc
          rcases hc with hc | rfl
          · have := hx c hc; omega
          · exact Nat.le_refl _
      · rename_i h
        refine ⟨by simp [hm], fun c hc => ?_⟩
        rw [List.mem_append, List.mem_singleton] at hc
        rcases hc with hc | rfl
        · exact hx c hc
        · omega
termination_by l.length
/-- who is no king is beaten by someone with a greater score -/
theorem step_up {s : Int} {xs : List Int} (hp : tourP s xs) {a : Nat} (ha : a < xs.length) (hk : kingN xs a = false) : popN 8 (winsN xs a) < popN 8 (winsN xs (kstepN xs a)) := by
  have h8 : xs.length ≤ 8 := by have := hp.1; have := hp.2.1; omega
  have hex : ∃ c, c < xs.length ∧ (nearN xs a).testBit c = false := by
    refine Classical.byContradiction fun hc => ?_
    have hall : ∀ c, c < xs.length → (nearN xs a).testBit c = true := fun c h => by
      rcases q : (nearN xs a).testBit c with _ | _
      · exact absurd ⟨c, h, q⟩ hc
      · rfl
    have hlt : nearN xs a < 2 ^ xs.length := by
      have hw : ∀ b, b < xs.length → winsN xs b < 2 ^ xs.length := fun b hb => by
        have := (tour_wins hp hb).2.1
        rwa [show s.toNat = xs.length by have := hp.2.1; omega] at this
      exact orK_ltn hw (wins_mem hp ha) (Nat.or_lt_two_pow (hw a ha) (Nat.pow_lt_pow_right (by decide) ha))
    have : nearN xs a = 2 ^ xs.length - 1 := Nat.eq_of_testBit_eq fun j => by
      rw [testBit_full]
      by_cases hj : j < xs.length
      · simp [hall j hj, hj]
      · simp only [hj, decide_false]
        exact Nat.testBit_lt_two_pow (Nat.lt_of_lt_of_le hlt (Nat.pow_le_pow_right (by decide) (by omega)))
    simp [kingN, this] at hk
  obtain ⟨c, hc, hn⟩ := hex
  unfold nearN at hn
  rw [testBit_orK, Nat.testBit_or, Nat.testBit_two_pow] at hn
  simp only [Bool.or_eq_false_iff, decide_eq_false_iff_not, List.any_eq_false] at hn
  obtain ⟨⟨h1, h2⟩, h3⟩ := hn
  have hca : (winsN xs c).testBit a = true := by
    have := beat_one hp hc ha (fun e => h2 e.symm)
    rw [this, h1]; rfl
  have hsub : ∀ j, (winsN xs a).testBit j = true → (less (winsN xs c) (2 ^ a)).testBit j = true := fun j hj => by
    have hjn : j < xs.length := by
      rcases Nat.lt_or_ge j xs.length with h | h
      · exact h
      · rw [wins_hi hp ha h] at hj; simp at hj
    have hja : a ≠ j := fun e => by subst e; rw [beat_self hp ha] at hj; simp at hj
    have hjc : c ≠ j := fun e => by subst e; rw [h1] at hj; simp at hj
    have h4 : (winsN xs j).testBit c = false := by
      have := h3 j (mem_memN.2 ⟨by omega, hj⟩)
      simpa using this
    have h5 := beat_one hp hc hjn hjc
    rw [testBit_less, Nat.testBit_two_pow, h5, h4]
    simp [hja]
  have hm : a ∈ memN (winsN xs c) 8 := mem_memN.2 ⟨by omega, hca⟩
  have hcard := card_less hm
  have hle := card_mono (n := 8) hsub
  rw [← pop_mem (tour_wins hp hc).2.2] at hcard
  rw [← pop_mem (tour_wins hp ha).2.2] at hle
  have hmem : c ∈ loseN xs a xs.length := mem_loseN.2 ⟨hc, by rw [bit_nat hp hc]; exact hca⟩
  have hself : a ∉ loseN xs a xs.length := fun h => by
    have := (mem_loseN.1 h).2
    rw [bit_nat hp ha, beat_self hp ha] at this
    simp at this
  rcases kstK_best (xs := xs) hself with ⟨e, _⟩ | ⟨_, hx⟩
  · rw [e] at hmem; simp at hmem
  · have := hx c hmem
    unfold kstepN
    omega
theorem kstep_lt {xs : List Int} {a : Nat} (ha : a < xs.length) : kstepN xs a < xs.length := kstK_mem ha fun _b hb => (mem_loseN.1 hb).1
def climbF (xs : List Int) : Nat → Nat → Nat
  | 0, a => a
  | f + 1, a => if kingN xs a = true then a else climbF xs f (kstepN xs a)
theorem climb_same {s : Int} {xs : List Int} (hp : tourP s xs) (f : Nat) : ∀ (a : Nat), a < xs.length → 8 - popN 8 (winsN xs a) < f → ∀ g, 8 - popN 8 (winsN xs a) < g → climbF xs f a = climbF xs g a := by
  induction f with
  | zero => intro a _ h; omega
  | succ f ih =>
    intro a ha hf g hg
    obtain ⟨g, rfl⟩ : ∃ g', g = g' + 1 := ⟨g - 1, by omega⟩
    simp only [climbF]
    rcases q : kingN xs a with _ | _
    · have := step_up hp ha q
      have := popN_le 8 (winsN xs (kstepN xs a))
      simp only [Bool.false_eq_true, if_false]
      exact ih _ (kstep_lt ha) (by omega) g (by omega)
    · simp
theorem climb_step {s : Int} {xs : List Int} (hp : tourP s xs) {a : Nat} (ha : a < xs.length) (hk : kingN xs a = false) : climbF xs 9 (kstepN xs a) = climbF xs 9 a := by
  have e : climbF xs 9 a = climbF xs 8 (kstepN xs a) := by simp [climbF, hk]
  have := step_up hp ha hk
  have := popN_le 8 (winsN xs (kstepN xs a))
  rw [e]
  exact climb_same hp 9 _ (kstep_lt ha) (by omega) 8 (by omega)
theorem climb_stop {xs : List Int} {a : Nat} (hk : kingN xs a = true) : climbF xs 9 a = a := by simp [climbF, hk]
noncomputable def climbI (s : Int) (xs : List Int) (a : Int) : Int := if (tourB s xs && inB a 0 (s - 1)) = true then (climbF xs 9 a.toNat : Int) else -1
end Go.Proofs.YtbkiedhaacapbaaDoor

namespace Go.Proofs.YtbkiedhaacapbaaDoor
set_option maxRecDepth 100000
def scN (xs : List Int) (b : Nat) : Int := (popN 8 (winsN xs b) : Nat)
theorem scN_bd (xs : List Int) (b : Nat) : 0 ≤ scN xs b ∧ scN xs b ≤ 8 := by
  have := popN_le 8 (winsN xs b)
  unfold scN; omega
theorem memN_sum (S : Nat) (g : Nat → Int) (k : Nat) : ((memN S k).map g).sum = sumN (fun b => if S.testBit b = true then g b else 0) k := by
  induction k with
  | zero => rfl
  | succ k ih =>
    rw [memN_succ, List.map_append, List.sum_append, ih, sumN]
    split <;> simp_all
theorem loseN_sum (xs : List Int) (a : Nat) (g : Nat → Int) (k : Nat) : ((loseN xs a k).map g).sum = sumN (fun b => if bitI (xs.getD b 0) a = true then g b else 0) k := by
  induction k with
  | zero => rfl
  | succ k ih =>
    rw [loseN_succ, List.map_append, List.sum_append, ih, sumN]
    split <;> simp_all
section
variable {n : Nat} {xs : List Int}
theorem tour_len (hp : tourP n xs) : xs.length = n := by have := hp.2.1; omega
theorem mem8 (hp : tourP n xs) {a : Nat} (ha : a < n) : memN (winsN xs a) 8 = memN (winsN xs a) n := by
  have hl := tour_len hp
  have h := (tour_wins hp (hl ▸ ha)).2.1
  have h1 := hp.1
  rw [show ((n : Int)).toNat = n from rfl] at h
  exact memN_top (by omega) (Nat.div_eq_of_lt h)
theorem sc_sum (hp : tourP n xs) {a : Nat} (ha : a < n) : scN xs a = sumN (fun b => if bt xs a b = true then 1 else 0) n := by
  unfold scN
  rw [pop_mem (tour_wins hp (tour_len hp ▸ ha)).2.2, mem8 hp ha, ← memN_sum]
  generalize memN (winsN xs a) n = l
  induction l with
  | nil => rfl
  | cons c l ih => rw [List.map_cons, List.sum_cons, ← ih, List.length_cons]; omega
theorem tr_bit (hp : tourP n xs) {a b : Nat} (ha : a < n) (hb : b < n) : (a = b → bt xs a b = false) ∧ (a ≠ b → bt xs a b = !bt xs b a) := by
  have h := tour_bits hp
  rw [tour_len hp] at h
  exact ⟨fun e => by subst e; exact h.2.1 a ha, fun e => h.2.2 a b ha hb e⟩
/-- the number of those who beat b -/
theorem by_sum (hp : tourP n xs) {b : Nat} (hb : b < n) : sumN (fun a => if bt xs a b = true then 1 else 0) n = n - 1 - scN xs b := by
  rw [sc_sum hp hb]
  have e : sumN (fun a => (if bt xs a b = true then 1 else 0) + (if bt xs b a = true then 1 else 0)) n = sumN (fun a => 1 - if a = b then 1 else 0) n := sumN_congr fun a ha => by
    have h1 := tr_bit hp ha hb
    have h2 := tr_bit hp hb ha
    by_cases e : a = b
    · subst e; rw [if_neg (by rw [h1.1 rfl]; decide), if_pos rfl]; rfl
    · rw [if_neg e, h1.2 e]
      cases bt xs b a <;> rfl
  rw [sumN_add, sumN_sub, sumN_const, sumN_one hb (fun k _ hk => if_neg hk), if_pos rfl] at e
  omega
theorem sc_bd (hp : tourP n xs) {b : Nat} (hb : b < n) : 0 ≤ scN xs b ∧ scN xs b ≤ (n : Int) - 1 := by
  have h := by_sum hp hb
  have h1 : 0 ≤ sumN (fun a => if bt xs a b = true then (1 : Int) else 0) n := sumN_nonneg fun k _ => by split <;> omega
  have := scN_bd xs b
  omega
end
end Go.Proofs.YtbkiedhaacapbaaDoor

namespace Go.Proofs.YtbkiedhaacapbaaDoor
open Go.RowKit Go.Sort
set_option maxRecDepth 100000
section
variable {n : Nat} {xs ys : List Int}
/-- a game's sign -/
def gmB (xs : List Int) (a b : Nat) : UInt8 := if bt xs a b = true then 49 else 48
/-- a player's games against those behind -/
def gmR (xs : List Int) (a m : Nat) : List UInt8 := (List.range m).map fun k => gmB xs a (a + 1 + k)
theorem gmR_succ (xs : List Int) (a m : Nat) : gmR xs a (m + 1) = gmR xs a m ++ [gmB xs a (a + 1 + m)] := by
  unfold gmR
  rw [List.range_succ, List.map_append]
  rfl
theorem gmR_len (xs : List Int) (a m : Nat) : (gmR xs a m).length = m := by simp [gmR]
/-- the first players' games -/
def gmL (xs : List Int) (n : Nat) : Nat → List UInt8
  | 0 => []
  | k + 1 => gmL xs n k ++ gmR xs k (n - (k + 1))
/-- how many these are -/
def gmP (n : Nat) : Nat → Nat
  | 0 => 0
  | k + 1 => gmP n k + (n - (k + 1))
theorem gmL_len (xs : List Int) (n : Nat) : ∀ k, (gmL xs n k).length = gmP n k
  | 0 => rfl
  | k + 1 => by rw [gmL, gmP, List.length_append, gmR_len, gmL_len xs n k]
theorem gmP_val (n : Nat) : ∀ k, k ≤ n → 2 * gmP n k + k * k + k = 2 * (n * k)
  | 0, _ => by simp [gmP]
  | k + 1, h => by
    have ih := gmP_val n k (by omega)
    rw [gmP]
    simp only [Nat.mul_add, Nat.add_mul, Nat.mul_one, Nat.one_mul]
    omega
theorem gmP_full (n : Nat) : 2 * gmP n n + n = n * n := by have := gmP_val n n (Nat.le_refl n); omega
theorem gmP_mono {n : Nat} : ∀ {k m : Nat}, k ≤ m → gmP n k ≤ gmP n m
  | k, 0, h => by obtain rfl : k = 0 := by omega
                  exact Nat.le_refl _
  | k, m + 1, h => by
    by_cases e : k = m + 1
    · subst e; exact Nat.le_refl _
    · have := gmP_mono (n := n) (k := k) (m := m) (by omega)
      rw [gmP]; omega
theorem gmP_lt {n a b : Nat} (hab : a < b) (hb : b < n) : gmP n a + (b - (a + 1)) < gmP n n := by
  have := gmP_mono (n := n) (k := a + 1) (m := n) (by omega)
  rw [gmP] at this
  omega
theorem gmL_pre (xs : List Int) (n : Nat) {k : Nat} : ∀ {m : Nat}, k ≤ m → ∃ suf, gmL xs n m = gmL xs n k ++ suf
  | 0, h => by obtain rfl : k = 0 := by omega
               exact ⟨[], by simp⟩
  | m + 1, h => by
    by_cases e : k = m + 1
    · subst e; exact ⟨[], by simp⟩
    · obtain ⟨s, hs⟩ := gmL_pre xs n (k := k) (m := m) (by omega)
      exact ⟨s ++ gmR xs m (n - (m + 1)), by rw [gmL, hs, List.append_assoc]⟩
theorem gmL_at (xs : List Int) {n a b : Nat} (hab : a < b) (hb : b < n) : (gmL xs n n).getD (gmP n a + (b - (a + 1))) 0 = gmB xs a b := by
  obtain ⟨s, hs⟩ := gmL_pre xs n (k := a + 1) (m := n) (by omega)
  rw [hs, gmL, List.append_assoc, List.getD_eq_getElem?_getD, List.getElem?_append_right (by rw [gmL_len]; omega), gmL_len, List.getElem?_append_left (by rw [gmR_len]; omega)]
  unfold gmR
  simp only [List.getElem?_map, List.getElem?_range (show gmP n a + (b - (a + 1)) - gmP n a < n - (a + 1) by omega), Option.map_some, Option.getD_some]
  congr 1
  omega
/-- the whole text -/
def fmL (xs : List Int) (n : Nat) : List UInt8 := UInt8.ofNat (48 + n) :: 58 :: gmL xs n n
theorem fmL_len (xs : List Int) (n : Nat) : (fmL xs n).length = 2 + gmP n n := by
  unfold fmL
  rw [List.length_cons, List.length_cons, gmL_len]
  omega
/-- two tours with the same results are one -/
theorem tour_ext (hp : tourP n xs) (hq : tourP n ys) (h : ∀ a b, a < b → b < n → bt xs a b = bt ys a b) : xs = ys := by
  have hb : ∀ a b, a < n → b < n → bt xs a b = bt ys a b := fun a b ha hb => by
    rcases Nat.lt_trichotomy a b with e | e | e
    · exact h a b e hb
    · subst e; rw [(tr_bit hp ha ha).1 rfl, (tr_bit hq ha ha).1 rfl]
    · rw [(tr_bit hp ha hb).2 (by omega), (tr_bit hq ha hb).2 (by omega), h b a e ha]
  refine list_ext0 (tour_len hp) (tour_len hq) fun i hi => ?_
  have h1 := tour_wins hp (a := i) (by rw [tour_len hp]; exact hi)
  have h2 := tour_wins hq (a := i) (by rw [tour_len hq]; exact hi)
  rw [h1.1, h2.1]
  rw [show ((n : Int)).toNat = n from rfl] at h1 h2
  congr 1
  refine Nat.eq_of_testBit_eq fun j => ?_
  by_cases hj : j < n
  · exact hb i j hi hj
  · have hpow : 2 ^ n ≤ 2 ^ j := Nat.pow_le_pow_right (by decide) (by omega)
    rw [Nat.testBit_lt_two_pow (by omega), Nat.testBit_lt_two_pow (by omega)]
theorem gmL_inj (hp : tourP n xs) (hq : tourP n ys) (h : gmL xs n n = gmL ys n n) : xs = ys :=
  tour_ext hp hq fun a b hab hb => by
    have e := gmL_at xs hab hb
    rw [h, gmL_at ys hab hb] at e
    unfold gmB at e
    rcases p : bt xs a b with _ | _ <;> rcases q : bt ys a b with _ | _ <;> rw [p, q] at e <;> first | rfl | (exact absurd e (by decide))
theorem fmL_inj (hp : tourP n xs) (hq : tourP n ys) (h : fmL xs n = fmL ys n) : xs = ys := by
  unfold fmL at h
  exact gmL_inj hp hq (by simpa using h)
/-! a tour that is read out of its text -/
def hfQ (xs : List Int) (a b x y : Nat) : Bool := bt xs x y && decide ((x < a ∨ y < a) ∨ (x = a ∧ y < b) ∨ (y = a ∧ x < b))
def hfL (xs : List Int) (n a b : Nat) : List Int := (List.range n).map fun x => ((setOf (hfQ xs a b x) n : Nat) : Int)
theorem hfL_len (xs : List Int) (n a b : Nat) : (hfL xs n a b).length = n := by simp [hfL]
theorem hfL_at (xs : List Int) {n a b x : Nat} (hx : x < n) : (hfL xs n a b).getD x 0 = ((setOf (hfQ xs a b x) n : Nat) : Int) := by simp [hfL, hx]
theorem hf_start (hp : tourP n xs) : hfL xs n 0 1 = List.replicate n 0 :=
  list_ext0 (hfL_len _ _ _ _) (by simp) fun i hi => by
    rw [hfL_at xs hi, setOf_congr (q := fun _ => false) (fun j hj => ?_)]
    · have : setOf (fun _ => false) n = 0 := by
        refine Nat.eq_of_testBit_eq fun j => ?_
        rw [testBit_setOf]; simp
      rw [this]; simp [hi]
    · unfold hfQ
      by_cases e : i = j
      · subst e; rw [(tr_bit hp hi hi).1 rfl]; rfl
      · rw [decide_eq_false (by omega), Bool.and_false]
theorem hf_row (hp : tourP n xs) (a : Nat) : hfL xs n a n = hfL xs n (a + 1) (a + 2) :=
  list_ext0 (hfL_len _ _ _ _) (hfL_len _ _ _ _) fun i hi => by
    rw [hfL_at xs hi, hfL_at xs hi, setOf_congr (q := hfQ xs (a + 1) (a + 2) i) (fun j hj => ?_)]
    unfold hfQ
    by_cases e : i = j
    · subst e; rw [(tr_bit hp hi hi).1 rfl]; rfl
    · congr 1
      exact decide_eq_decide.2 (by omega)
theorem hf_end (hp : tourP n xs) (b : Nat) : hfL xs n n b = xs :=
  list_ext0 (hfL_len _ _ _ _) (tour_len hp) fun i hi => by
    have h1 := tour_wins hp (a := i) (by rw [tour_len hp]; exact hi)
    rw [hfL_at xs hi, h1.1]
    rw [show ((n : Int)).toNat = n from rfl] at h1
    congr 1
    refine (setOf_eq fun j => ?_).symm
    unfold hfQ
    rw [decide_eq_true (show (i < n ∨ j < n) ∨ (i = n ∧ j < b) ∨ (j = n ∧ i < b) by omega), Bool.and_true]
    by_cases hj : j < n
    · rw [decide_eq_true hj, Bool.true_and]; try rfl
    · have hpow : 2 ^ n ≤ 2 ^ j := Nat.pow_le_pow_right (by decide) (by omega)
      rw [Nat.testBit_lt_two_pow (by omega), decide_eq_false hj, Bool.false_and]
theorem hf_step (hp : tourP n xs) {a b u v : Nat} (hab : a < b) (hb : b < n) (huv : (u = a ∧ v = b) ∨ (u = b ∧ v = a)) (hw : bt xs u v = true) :
    hfL xs n a (b + 1) = (hfL xs n a b).set u (((setOf (hfQ xs a b u) n ||| 2 ^ v : Nat)) : Int) ∧ setOf (hfQ xs a b u) n ||| 2 ^ v < 2 ^ n := by
  have hu : u < n := by omega
  have hv : v < n := by omega
  have hne : u ≠ v := by omega
  have hl : bt xs v u = false := by
    have := (tr_bit hp hu hv).2 hne
    rw [hw] at this
    simpa using this.symm
  refine ⟨?_, Nat.or_lt_two_pow (setOf_lt _ _) (Nat.pow_lt_pow_right (by decide) hv)⟩
  refine list_ext0 (hfL_len _ _ _ _) (by simp [hfL_len]) fun i hi => ?_
  rw [hfL_at xs hi]
  by_cases e : i = u
  · subst e
    rw [getD_set_same _ (by rw [hfL_len]; exact hi)]
    congr 1
    refine (setOf_eq fun j => ?_).symm
    rw [Nat.testBit_or, testBit_setOf, Nat.testBit_two_pow]
    by_cases ej : v = j
    · subst ej
      unfold hfQ
      rw [decide_eq_true hv, hw, decide_eq_true (show (i < a ∨ v < a) ∨ (i = a ∧ v < b + 1) ∨ (v = a ∧ i < b + 1) by omega)]
      simp
    · rw [decide_eq_false ej, Bool.or_false]
      by_cases hj : j < n
      · congr 1
        unfold hfQ
        congr 1
        exact decide_eq_decide.2 (by omega)
      · rw [decide_eq_false hj, Bool.false_and, Bool.false_and]
  · rw [getD_set_other _ (Ne.symm e), hfL_at xs hi, setOf_congr (q := hfQ xs a b i) (fun j hj => ?_)]
    unfold hfQ
    by_cases ei : i = v ∧ j = u
    · obtain ⟨rfl, rfl⟩ := ei
      rw [hl]; rfl
    · congr 1
      exact decide_eq_decide.2 (by omega)
end
end Go.Proofs.YtbkiedhaacapbaaDoor

namespace Go.Proofs.YtbkiedhaacapbaaDoor
open Go.RowKit Go.Sort
set_option maxRecDepth 100000
theorem same_true (xs ys : List Int) (h : xs.length = ys.length) (HP : ∀ j, j < xs.length → xs.getD j 0 = ys.getD j 0) : decide (xs = ys) = true := by
  rw [decide_eq_true]
  apply List.ext_getElem h
  intro i h1 h2
  have := HP i h1
  simpa [h1, h2] using this
set_option maxHeartbeats 1000000 in
theorem lawBits_any (x : Nat) (w : World) (h : x < 256) :
    Calls Tryd.prog 33 #[.int .i64 x] w fun e w' => e = .returned (.int .i64 (popN 8 x : Nat)) ∧ w = w' := by
  go_enter Tryd.func33, Tryd.ntmps33
  go_wp2
  go_loop [0, 3] (fun n t => ∃ j m k : Nat, j ≤ 8 ∧ n = .int .i64 m ∧ m < 2 ^ j ∧ t = .int .i64 k ∧ k ≤ 8 ∧ Hid (k + popN j m = popN 8 x)) (fun n _ => (intOf n).toNat)
  case atStart => exact ⟨8, x, 0, by omega, rfl, h, rfl, by omega, by simp [Hid]⟩
  case round =>
    obtain ⟨j, m, k, hj, rfl, hm, rfl, hk, HP⟩ := hrel
    by_cases h0 : 0 < m
    · obtain ⟨j, rfl⟩ : ∃ i, j = i + 1 := ⟨j - 1, by
        rcases j with _ | j
        · simp at hm; omega
        · omega⟩
      have hp := popN_le 8 x
      have hq : k + (m % 2 + popN j (m / 2)) = popN 8 x := HP.out
      clear HP
      have hand := i64_and_one (m : Int)
      have h2 : 2 ^ (j + 1) = 2 * 2 ^ j := by rw [Nat.pow_succ]; omega
      go_wp2
      go_round
      case rel => exact ⟨j, m / 2, k + m % 2, by omega, by first | go_num | (simp; omega), by omega, by first | go_num | (rw [hand]; go_num), by omega, by unfold Hid; omega⟩
      case measure => simp [intOf]; omega
    · obtain rfl : m = 0 := by omega
      have hq := HP.out
      rw [popN_zero] at hq
      go_wp2
      go_ret
      exact ⟨ret_int (by omega), rfl⟩
end Go.Proofs.YtbkiedhaacapbaaDoor

namespace Go.Proofs.YtbkiedhaacapbaaDoor
open Go.RowKit Go.Sort
set_option maxRecDepth 100000
theorem rows_info : (Tryd.prog.info? 23).map (fun i => (i.zero, i.size, i.bytes)) = some (some (.slice none 0 0), 1, 24) := by kernel_rfl
theorem ownsRow_below {w w' : World} {base size n : Nat} {e : TypeId} {v : Value} {xs : List Value} (h : w.ownsRow base e size v n xs) (hb : Below w.heap.size w w') : w'.ownsRow base e size v n xs := by
  refine ⟨h.1, ?_⟩
  rcases h.2 with h0 | ⟨g, cap, cur, hv, hg, hh, r⟩
  · exact .inl h0
  · exact .inr ⟨g, cap, cur, hv, hg, by rw [hb.block g (Array.getElem?_eq_some_iff.1 hh).1]; exact hh, r⟩
theorem ownsRow_mono {w : World} {base b' size n : Nat} {e : TypeId} {v : Value} {xs : List Value} (h : w.ownsRow base e size v n xs) (hb : b' ≤ base) : w.ownsRow b' e size v n xs := by
  refine ⟨h.1, ?_⟩
  rcases h.2 with h0 | ⟨g, cap, cur, hv, hg, r⟩
  · exact .inl h0
  · exact .inr ⟨g, cap, cur, hv, by omega, r⟩
/-- rows of different element types lie in different blocks -/
theorem types_part {w : World} {b1 b2 s1 s2 n1 n2 : Nat} {e1 e2 : TypeId} {v1 v2 : Value} {x1 x2 : List Value} (h1 : w.ownsRow b1 e1 s1 v1 n1 x1) (h2 : w.ownsRow b2 e2 s2 v2 n2 x2) (hne : e1 ≠ e2) : v1.ownBlock = none ∨ v1.ownBlock ≠ v2.ownBlock := by
  rcases h1.2 with ⟨rfl, _⟩ | ⟨g1, c1, cur1, rfl, _, hg1, _⟩
  · exact .inl rfl
  · right
    rcases h2.2 with ⟨rfl, _⟩ | ⟨g2, c2, cur2, rfl, _, hg2, _⟩
    · simp [Value.ownBlock]
    · intro e
      simp only [Value.ownBlock, Option.some.injEq] at e
      subst e
      rw [hg1] at hg2
      simp only [Option.some.injEq, Obj.cells.injEq] at hg2
      exact hne hg2.2.1
theorem apart_symm' {a b : Option Nat} (h : a = none ∨ a ≠ b) : b = none ∨ b ≠ a := by
  rcases h with h | h
  · subst h; cases b <;> simp
  · exact .inr (Ne.symm h)
def OwnRowsU (w : World) (base : Nat) (v : Value) (us : List Value) (rows : List (List Int)) : Prop :=
  us.length = rows.length ∧ w.ownsRow base 23 1 v rows.length us ∧ (∀ k, k < rows.length → Own w base (us.getD k (.slice none 0 0)) (rows.getD k [])) ∧
    ∀ i j, i < j → j < rows.length → (us.getD i (.slice none 0 0)).ownBlock = none ∨ (us.getD i (.slice none 0 0)).ownBlock ≠ (us.getD j (.slice none 0 0)).ownBlock
def OwnRows (w : World) (base : Nat) (v : Value) (rows : List (List Int)) : Prop := ∃ us : List Value, OwnRowsU w base v us rows
theorem OwnRows.nil_ (w : World) (base : Nat) : OwnRows w base (.slice none 0 0) [] := ⟨[], rfl, World.ownsRow_nil _ _ _ _, fun k h => absurd h (by simp), fun i j _ h => absurd h (by simp)⟩
theorem OwnRows.lit0 (w : World) (base : Nat) (hb : base ≤ w.heap.size) : OwnRows (w.alloc (.cells #[] 23)) base (.slice (some ⟨w.heap.size, 0, none⟩) 0 0) [] := by
  have := World.ownsRow_lit (e := 23) (size := 1) w #[] 0 hb (by unfold maxLen; omega) (by simp)
  exact ⟨[], rfl, by simpa using this, fun k h => absurd h (by simp), fun i j _ h => absurd h (by simp)⟩
theorem OwnRowsU.below {w w' : World} {base : Nat} {v : Value} {us : List Value} {rows : List (List Int)} (h : OwnRowsU w base v us rows) (hb : Below w.heap.size w w') : OwnRowsU w' base v us rows := by
  obtain ⟨hl, ho, hr, hd⟩ := h
  exact ⟨hl, ownsRow_below ho hb, fun k hk => (hr k hk).below hb, hd⟩
theorem OwnRows.below {w w' : World} {base : Nat} {v : Value} {rows : List (List Int)} (h : OwnRows w base v rows) (hb : Below w.heap.size w w') : OwnRows w' base v rows := by
  obtain ⟨us, h⟩ := h
  exact ⟨us, h.below hb⟩
theorem OwnRows.mono {w : World} {base b' : Nat} {v : Value} {rows : List (List Int)} (h : OwnRows w base v rows) (hb : b' ≤ base) : OwnRows w b' v rows := by
  obtain ⟨us, hl, ho, hr, hd⟩ := h
  exact ⟨us, hl, ownsRow_mono ho hb, fun k hk => (hr k hk).mono hb, hd⟩
/-- a change of one block that is not among these rows: one that is older than all of them -/
theorem OwnRows.kept_lo {w w' : World} {base : Nat} {v : Value} {rows : List (List Int)} (h : OwnRows w base v rows) {row : Option Nat} (hg : w.grownBy w' row) (hlt : ∀ g, row = some g → g < base) : OwnRows w' base v rows := by
  obtain ⟨us, hl, ho, hr, hd⟩ := h
  have key : ∀ {u : Value}, (∀ k, u.ownBlock = some k → base ≤ k ∧ k < w.heap.size) → u.ownBlock = none ∨ u.ownBlock ≠ row := by
    intro u hu
    rcases q : u.ownBlock with _ | k
    · exact .inl rfl
    · right
      intro e
      have := (hu k q).1
      have := hlt k e.symm
      omega
  exact ⟨us, hl, World.ownsRow.kept ho hg (key (World.ownsRow.lt ho)), fun k hk => (hr k hk).kept hg (key (hr k hk).lt), hd⟩
theorem OwnRows.lt {w : World} {base : Nat} {v : Value} {rows : List (List Int)} (h : OwnRows w base v rows) : ∀ k, v.ownBlock = some k → base ≤ k ∧ k < w.heap.size := by
  obtain ⟨us, hl, ho, hr, hd⟩ := h
  exact World.ownsRow.lt ho
/-- a row is changed in place -/
theorem OwnRowsU.row {w w' : World} {base : Nat} {v : Value} {us : List Value} {rows : List (List Int)} (h : OwnRowsU w base v us rows) {i : Nat} {ys : List Int} (hi : i < rows.length)
    (ho' : Own w' base (us.getD i (.slice none 0 0)) ys) (hg : w.grownBy w' (us.getD i (.slice none 0 0)).ownBlock) : OwnRowsU w' base v us (rows.set i ys) := by
  obtain ⟨hl, ho, hr, hd⟩ := h
  refine ⟨by simp [hl], ?_, fun k hk => ?_, fun a b hab hb => hd a b hab (by simpa using hb)⟩
  · rw [List.length_set]
    exact World.ownsRow.kept ho hg (apart_symm' (types_part (hr i hi) ho (by decide)))
  · rw [List.length_set] at hk
    by_cases hik : i = k
    · subst hik
      rw [show (rows.set i ys).getD i [] = ys by simp [List.getD_eq_getElem?_getD, hk]]
      exact ho'
    · rw [show (rows.set i ys).getD k [] = rows.getD k [] by simp [List.getD_eq_getElem?_getD, List.getElem?_set_ne hik]]
      refine (hr k hk).kept hg ?_
      rcases Nat.lt_or_gt_of_ne hik with h1 | h1
      · exact apart_symm' (hd i k h1 hk)
      · exact hd k i h1 hi
theorem OwnRows.form {w : World} {base : Nat} {v : Value} {rows : List (List Int)} (h : OwnRows w base v rows) : ∃ A c, v = .slice A rows.length c ∧ c ≤ maxLen ∧ rows.length ≤ c ∧
    (0 < rows.length → ∃ g, A = some ⟨g, 0, none⟩ ∧ g < w.heap.size ∧ ∀ k, k < rows.length → ∃ (B : Option Addr) (d : Nat), w.cell? ⟨g, k, none⟩ = some (.slice B (rows.getD k []).length d) ∧ Own w base (.slice B (rows.getD k []).length d) (rows.getD k [])) := by
  obtain ⟨us, hl, ho, hr, -⟩ := h
  have hlt := World.ownsRow.lt ho
  have hc := fun g hg => World.ownsRow.cells ho (g := g) hg
  rcases ho.2 with ⟨rfl, e⟩ | ⟨g, cap, cur, rfl, hb, hg, hle, hm, _⟩
  · exact ⟨none, 0, by rw [e], by unfold maxLen; omega, by omega, fun h => absurd h (by omega)⟩
  · refine ⟨_, cap, rfl, hm, hle, fun _ => ⟨g, rfl, (hlt g rfl).2, fun k hk => ?_⟩⟩
    have h1 := hc g rfl k (us.getD k (.slice none 0 0)) (by simp [show k < us.length by omega])
    rw [Addr.add_lit, Nat.zero_add] at h1
    have h2 := hr k hk
    obtain ⟨B, d, e, _⟩ := h2.form
    rw [e] at h1 h2
    exact ⟨B, d, h1, h2⟩
def RdRows (w : World) (v : Value) (rows : List (List Int)) : Prop := ∃ A c, v = .slice A rows.length c ∧ c ≤ maxLen ∧ rows.length ≤ c ∧
    (0 < rows.length → ∃ g, A = some ⟨g, 0, none⟩ ∧ g < w.heap.size ∧ ∀ k, k < rows.length → ∃ u, w.cell? ⟨g, k, none⟩ = some u ∧ Rd w u (rows.getD k []))
theorem OwnRows.rdr {w : World} {base : Nat} {v : Value} {rows : List (List Int)} (h : OwnRows w base v rows) : RdRows w v rows := by
  obtain ⟨A, c, rfl, hc, hl, hx⟩ := h.form
  refine ⟨A, c, rfl, hc, hl, fun h0 => ?_⟩
  obtain ⟨g, rfl, hg, hk⟩ := hx h0
  refine ⟨g, rfl, hg, fun k hkl => ?_⟩
  obtain ⟨B, d, h1, h2⟩ := hk k hkl
  exact ⟨_, h1, h2.rd⟩
theorem RdRows.below {w w' : World} {v : Value} {rows : List (List Int)} (h : RdRows w v rows) (hb : Below w.heap.size w w') : RdRows w' v rows := by
  obtain ⟨A, c, rfl, hc, hl, hx⟩ := h
  refine ⟨A, c, rfl, hc, hl, fun h0 => ?_⟩
  obtain ⟨g, rfl, hg, hk⟩ := hx h0
  refine ⟨g, rfl, Nat.lt_of_lt_of_le hg hb.size, fun k hkl => ?_⟩
  obtain ⟨u, h1, h2⟩ := hk k hkl
  exact ⟨u, by rw [hb.cell (p := ⟨g, k, none⟩) hg]; exact h1, h2.below hb⟩
theorem wp_append1V {ops : Array Oper} {rest : List Oper} {o : Oper} {a : Act} {Q : Exit → Act → World → Prop} (w : World) (hgd : o.guard = none) (s x : Operand)
    (ho : o.op = .call { callee := .builtin .append, args := #[s, x], argTypes := #[111, 111] })
    (base : Nat) (v : Value) (rows : List (List Int)) (u : Value) (xs : List Int) (w0 : World) (hs : a.eval s = v) (hown0 : OwnRows w0 base v rows) (hb0 : Below w0.heap.size w0 w) (hu0 : Own w w0.heap.size u xs) (hbase0 : base ≤ w0.heap.size) (hx : a.eval x = .slice (some ⟨w.heap.size, 0, none⟩) 1 1)
    (hlen : rows.length ≤ 1048576)
    (h : ∀ v' w', OwnRows w' base v' (rows ++ [xs]) → w.grownBy w' v.ownBlock → wpList Tryd.prog ops Q rest (a.put o.dst v') w') :
    wpList Tryd.prog ops Q (o :: rest) a (w.alloc (.cells #[u] 23)) := by
  obtain ⟨i0, hi, hz0, hz1, hz2⟩ := info_parts rows_info
  have hu := hu0.mono hbase0
  have hbase : base ≤ w.heap.size := Nat.le_trans hbase0 hb0.size
  obtain ⟨us, hown0⟩ := hown0
  have hlt0 : ∀ k, k < rows.length → ∀ g, (us.getD k (.slice none 0 0)).ownBlock = some g → g < w0.heap.size := fun k hk g hg => ((hown0.2.2.1 k hk).lt g hg).2
  obtain ⟨hl, hor, hr, hd⟩ := hown0.below hb0
  have hor' : (w.alloc (.cells #[u] 23)).ownsRow base 23 1 v rows.length us := World.ownsRow.alloc hor _
  refine wpList_append_own _ hgd s x 111 ho base 23 i0 (.slice none 0 0) 1 24 Tryd.underlying111 hi hz0 hz1 hz2 rfl (by decide) v rows.length us hs hor' ⟨w.heap.size, 0, none⟩ 1 1 [u] hx rfl ?_ ?_ ?_ ?_ ?_ ?_
  · intro j y hj
    match j, hj with
    | 0, hj => simp at hj; subst hj; simp [Addr.add]
  · intro y hy
    simp at hy
    subst hy
    obtain ⟨B, d, e, _⟩ := hu.form
    rw [e]; rfl
  · unfold maxLen; omega
  · omega
  · simp; omega
  · intro v' w' h1 h2 _
    have h2' := grown_of_alloc h2
    have e1 : ∀ k, k < rows.length → (us ++ [u]).getD k (.slice none 0 0) = us.getD k (.slice none 0 0) := fun k hk => by simp [List.getD_eq_getElem?_getD, List.getElem?_append_left (show k < us.length by omega)]
    have e2 : (us ++ [u]).getD rows.length (.slice none 0 0) = u := by simp [List.getD_eq_getElem?_getD, ← hl]
    refine h v' w' ⟨us ++ [u], by simp [hl], by rw [List.length_append]; exact h1, fun k hk => ?_, fun i j hij hj => ?_⟩ h2'
    · rw [List.length_append, List.length_singleton] at hk
      by_cases hk2 : k < rows.length
      · have e3 : (rows ++ [xs]).getD k [] = rows.getD k [] := by simp [List.getD_eq_getElem?_getD, List.getElem?_append_left hk2]
        rw [e1 k hk2, e3]
        exact (hr k hk2).kept h2' (types_part (hr k hk2) hor (by decide))
      · obtain rfl : k = rows.length := by omega
        have e3 : (rows ++ [xs]).getD rows.length [] = xs := by simp [List.getD_eq_getElem?_getD]
        rw [e2, e3]
        exact hu.kept h2' (types_part hu hor (by decide))
    · rw [List.length_append, List.length_singleton] at hj
      rw [e1 i (by omega)]
      by_cases hj2 : j < rows.length
      · rw [e1 j hj2]; exact hd i j hij hj2
      · obtain rfl : j = rows.length := by omega
        rw [e2]
        rcases q : (us.getD i (.slice none 0 0)).ownBlock with _ | g
        · exact .inl rfl
        · right
          intro e
          have := hlt0 i hij g q
          have := (hu0.lt g e.symm).1
          omega
theorem below_appendV {B : Nat} {a w w' : World} {base : Nat} {v : Value} {rows : List (List Int)} (h : Below B a w) (hg : w.grownBy w' v.ownBlock) (hown : OwnRows w base v rows) (hB : B ≤ base) (hbase : base ≤ w.heap.size) : Below B a w' :=
  h.grown hg (Nat.le_trans hB hbase) (fun k hk => Nat.le_trans hB (hown.lt k hk).1)
end Go.Proofs.YtbkiedhaacapbaaDoor

namespace Go.Proofs.YtbkiedhaacapbaaDoor
open Go.RowKit Go.Sort
set_option maxRecDepth 100000
section
variable {n : Nat} {xs : List Int} {sl : Value} {w : World}
theorem rd_at {A : Option Addr} {c n : Nat} {L : List Int} (h : Rd w (.slice A n c) L) (hl : L.length = n) (h1 : 0 < n) : ∃ g off, A = some ⟨g, off, none⟩ := by
  obtain ⟨A', c', e, -, -, hx⟩ := h
  injection e with e1 _ _
  subst e1
  obtain ⟨g, off, rfl, -, -⟩ := hx (by omega)
  exact ⟨g, off, rfl⟩
theorem rd_cell {g off c n : Nat} {L : List Int} (h : Rd w (.slice (some ⟨g, off, none⟩) n c) L) (hl : L.length = n) {i : Nat} (hi : i < n) : w.cell? ⟨g, off + i, none⟩ = some (.int .i64 (L.getD i 0)) := by
  obtain ⟨A', c', e, -, -, hx⟩ := h
  injection e with e1 _ _
  subst e1
  obtain ⟨g', off', e', -, hc⟩ := hx (by omega)
  injection e' with e'
  injection e' with e1 e2 _
  subst e1 e2
  exact hc i (by omega)
theorem rd_len {A : Option Addr} {c n : Nat} {L : List Int} (h : Rd w (.slice A n c) L) : L.length = n ∧ n ≤ c ∧ c ≤ maxLen := by
  obtain ⟨A', c', e, h1, h2, -⟩ := h
  injection e with _ e2 e3
  subst e3
  omega
theorem rd_rows {A : Option Addr} {c m : Nat} {rows : List (List Int)} (h : RdRows w (.slice A m c) rows) {j : Nat} (hj : j < m) : ∃ g u, A = some ⟨g, 0, none⟩ ∧ w.cell? ⟨g, j, none⟩ = some u ∧ Rd w u (rows.getD j []) := by
  obtain ⟨A', c', e, h1, h2, hx⟩ := h
  injection e with e1 e2 e3
  subst e1
  obtain ⟨g, rfl, -, hc⟩ := hx (by omega)
  obtain ⟨u, h3, h4⟩ := hc j (by omega)
  exact ⟨g, u, rfl, h3, h4⟩
theorem rd_cap {A : Option Addr} {c n : Nat} {L : List Int} (h : Rd w (.slice A n c) L) : c ≤ maxLen := by
  obtain ⟨A', c', e, -, hm, -⟩ := h
  injection e with _ _ e3
  subst e3
  exact hm
theorem in_tour {n : Nat} {c : Nat} (hc : c < n) : inB (c : Int) 0 ((n : Int) - 1) = true := inB_true.2 ⟨by omega, by omega⟩
theorem beat_bt (hp : tourP n xs) {a b : Nat} (ha : a < n) (hb : b < n) : beatB n xs a b = bt xs a b := by
  unfold beatB
  rw [tourB_true.2 hp, in_tour ha, in_tour hb, Int.toNat_natCast, Int.toNat_natCast, bitI_bt (tour_wins hp (tour_len hp ▸ ha)).1]
  rfl
theorem cBeat (hp : tourP n xs) (h : Rd w sl xs) (a b : Nat) (ha : a < n) (hb : b < n) : Calls Tryd.prog 12 #[.agg #[.int .i64 n, sl], .int .i64 a, .int .i64 b] w fun e w' => e = .returned (.bool (bt xs a b)) ∧ Below w.heap.size w w' :=
  (implDoesBeat n sl xs a b w h).mono fun e w' ⟨h1, h3⟩ => by
    rw [beat_bt hp ha hb] at h1
    exact ⟨h1, h3⟩
end
end Go.Proofs.YtbkiedhaacapbaaDoor

namespace Go.Proofs.YtbkiedhaacapbaaDoor
open Go.RowKit Go.Sort

/-- the sum over the first j whom a beats -/
def pwT (xs ys : List Int) (a j : Nat) : Int := (((memN (winsN xs a) 8).take j).map fun b => ys.getD b 0).sum
def pwAt (xs ys : List Int) (a : Nat) : Int := pwT xs ys a (memN (winsN xs a) 8).length
def pwStep (xs ys : List Int) : List Int := (List.range xs.length).map (pwAt xs ys)
def pwL (xs : List Int) : Nat → List Int
  | 0 => List.replicate xs.length 1
  | k + 1 => pwStep xs (pwL xs k)
def PB (B : Int) (ys : List Int) : Prop := ∀ b : Nat, 0 ≤ ys.getD b 0 ∧ ys.getD b 0 ≤ B
theorem pwT_zero (xs ys : List Int) (a : Nat) : pwT xs ys a 0 = 0 := by simp [pwT]
theorem pwT_succ {xs ys : List Int} {a j : Nat} (h : j < (memN (winsN xs a) 8).length) : pwT xs ys a (j + 1) = pwT xs ys a j + ys.getD ((memN (winsN xs a) 8).getD j 0) 0 := by
  unfold pwT
  rw [take_snocN h, List.map_append, List.sum_append, getD_nat h]
  simp
theorem pwT_bd {xs ys : List Int} {B : Int} (hB : PB B ys) (a j : Nat) (h : j ≤ (memN (winsN xs a) 8).length) : 0 ≤ pwT xs ys a j ∧ pwT xs ys a j ≤ B * j := by
  induction j with
  | zero => simp [pwT_zero]
  | succ j ih =>
    have ih := ih (by omega)
    have hb := hB ((memN (winsN xs a) 8).getD j 0)
    rw [pwT_succ (by omega)]
    have : B * ((j + 1 : Nat) : Int) = B * j + B := by rw [Int.natCast_add, Int.mul_add]; simp
    omega
theorem pwT_bd' {xs ys : List Int} {B : Int} (hB : PB B ys) (h0 : 0 ≤ B) (h1 : B ≤ 68719476736) (a j : Nat) (h : j ≤ (memN (winsN xs a) 8).length) : 0 ≤ pwT xs ys a j ∧ pwT xs ys a j ≤ 549755813888 := by
  have h2 := pwT_bd (xs := xs) hB a j h
  have hl := memN_len (winsN xs a) 8
  have : B * (j : Int) ≤ B * 8 := Int.mul_le_mul_of_nonneg_left (by omega) h0
  omega
theorem memL_cells' {w : World} {base S k q d : Nat} {A : Option Addr} (h : Own w base (.slice A q d) (memL S k)) (hq : (memN S k).length = q) (h0 : 0 < q) :
    ∃ g off, A = some ⟨g, off, none⟩ ∧ g < w.heap.size ∧ ∀ j, j < q → w.cell? ⟨g, off + j, none⟩ = some (.int .i64 ((memN S k).getD j 0 : Nat)) := by
  obtain ⟨A', c, e, -, -, hx⟩ := memL_cells h
  injection e with e1 _ _
  subst e1
  rw [hq] at hx
  obtain ⟨g, off, e, hg, hz⟩ := hx h0
  exact ⟨g, off, e, hg, hz⟩
theorem pwAt_bd {xs ys : List Int} {B : Int} (hB : PB B ys) (h0 : 0 ≤ B) (a : Nat) : 0 ≤ pwAt xs ys a ∧ pwAt xs ys a ≤ B * 8 := by
  have h := pwT_bd (xs := xs) hB a _ (Nat.le_refl _)
  have hl := memN_len (winsN xs a) 8
  have : B * ((memN (winsN xs a) 8).length : Int) ≤ B * 8 := Int.mul_le_mul_of_nonneg_left (by omega) h0
  unfold pwAt
  omega
theorem pwStep_len (xs ys : List Int) : (pwStep xs ys).length = xs.length := by simp [pwStep]
theorem pwL_len (xs : List Int) (k : Nat) : (pwL xs k).length = xs.length := by cases k <;> simp [pwL, pwStep_len]
theorem pwStep_at {xs ys : List Int} {a : Nat} (h : a < xs.length) : (pwStep xs ys).getD a 0 = pwAt xs ys a := by simp [pwStep, h]
theorem pwL_bd (xs : List Int) (k : Nat) : PB (8 ^ k : Int) (pwL xs k) := by
  induction k with
  | zero =>
    intro b
    by_cases h : b < xs.length
    · simp [pwL, h]
    · simp [pwL, Nat.le_of_not_lt h]
  | succ k ih =>
    intro b
    have h0 : (0 : Int) ≤ 8 ^ k := Int.pow_nonneg (by decide)
    by_cases h : b < xs.length
    · rw [pwL, pwStep_at h, Int.pow_succ]
      exact pwAt_bd ih h0 b
    · have : (pwL xs (k + 1)).getD b 0 = 0 := by
        rw [List.getD_eq_getElem?_getD, List.getElem?_eq_none (by rw [pwL_len]; omega)]; rfl
      rw [this, Int.pow_succ]
      omega
theorem pw8 {k : Nat} (h : k ≤ 12) : (8 : Int) ^ k ≤ 68719476736 := by
  have : (8 : Nat) ^ k ≤ 8 ^ 12 := Nat.pow_le_pow_right (by decide) h
  have e : ((8 ^ k : Nat) : Int) = (8 : Int) ^ k := by simp
  rw [← e]
  have e2 : (8 : Nat) ^ 12 = 68719476736 := by decide
  omega
noncomputable def pwR (s : Int) (xs : List Int) (k : Int) : List Int := if (tourB s xs && inB k 0 12) = true then pwL xs k.toNat else []
theorem pwR_len (s : Int) (xs : List Int) (k : Int) : (pwR s xs k).length ≤ 8 := by
  unfold pwR
  split
  · rename_i h
    rw [Bool.and_eq_true] at h
    have := (tourB_true.1 h.1).1
    have := (tourB_true.1 h.1).2.1
    rw [pwL_len]; omega
  · simp
theorem getD_rep (n i : Nat) : (List.replicate n (0 : Int)).getD i 0 = 0 := by
  by_cases h : i < n
  · simp [h]
  · simp [Nat.le_of_not_lt h]
/-- the row that grows: done below a, the j-th partial sum at a, zeros above -/
def pwRow (xs ys N : List Int) (n a j : Nat) : Prop := ∀ i, i < n → N.getD i 0 = if i < a then pwAt xs ys i else if i = a then pwT xs ys a j else 0
theorem pwRow_start {xs ys : List Int} {n : Nat} : pwRow xs ys (List.replicate n 0) n 0 0 := fun i _ => by
  rw [getD_rep, pwT_zero]; simp
theorem pwRow_next {xs ys N : List Int} {n a : Nat} (h : pwRow xs ys N n a (memN (winsN xs a) 8).length) : pwRow xs ys N n (a + 1) 0 := fun i hi => by
  rw [h i hi, pwT_zero]
  by_cases h1 : i < a
  · rw [if_pos h1, if_pos (by omega)]
  · rw [if_neg h1]
    by_cases h2 : i = a
    · subst h2; rw [if_pos rfl, if_pos (by omega)]; rfl
    · rw [if_neg h2, if_neg (by omega)]; simp
theorem pwRow_step {xs ys N : List Int} {n a j : Nat} {v : Int} (hl : N.length = n) (h : pwRow xs ys N n a j) (ha : a < n) (hv : pwT xs ys a (j + 1) = v) : pwRow xs ys (N.set a v) n a (j + 1) := fun i hi => by
  by_cases h2 : i = a
  · subst h2
    rw [getD_set_same _ (by omega), if_neg (by omega), if_pos rfl, hv]
  · rw [getD_set_other _ (Ne.symm h2), h i hi, if_neg h2, if_neg h2]
theorem pwRow_at {xs ys N : List Int} {n a j : Nat} (h : pwRow xs ys N n a j) (ha : a < n) : N.getD a 0 = pwT xs ys a j := by
  rw [h a ha, if_neg (by omega), if_pos rfl]
theorem pwRow_end {xs ys N : List Int} {n : Nat} (hn : xs.length = n) (hl : N.length = n) (h : pwRow xs ys N n n 0) : N = pwStep xs ys :=
  list_ext0 hl (by rw [pwStep_len, hn]) fun i hi => by
    rw [h i hi, if_pos hi, pwStep_at (by omega)]
end Go.Proofs.YtbkiedhaacapbaaDoor

namespace Go.Proofs.YtbkiedhaacapbaaDoor
open Go.RowKit Go.Sort

/-- the defeats against the first t who beat a -/
def lsT (xs : List Int) (a t : Nat) : Int := (((loseN xs a xs.length).take t).map fun b => (xs.length : Int) - 1 - scN xs b).sum
def dsAt (xs : List Int) (a : Nat) : Int := pwAt xs (pwL xs 1) a - lsT xs a (loseN xs a xs.length).length
def dsL (xs : List Int) : List Int := (List.range xs.length).map (dsAt xs)
noncomputable def dsR (s : Int) (xs : List Int) : List Int := if tourB s xs = true then dsL xs else []
theorem dsR_len (s : Int) (xs : List Int) : (dsR s xs).length ≤ 8 := by
  unfold dsR
  split
  · rename_i h
    have := (tourB_true.1 h).1
    have := (tourB_true.1 h).2.1
    simp [dsL]; omega
  · simp
theorem loseN_len (xs : List Int) (a k : Nat) : (loseN xs a k).length ≤ k := by
  unfold loseN
  refine Nat.le_trans (List.length_filter_le _ _) ?_
  rw [List.length_range]; exact Nat.le_refl _
theorem sum_bd2 {l : List Nat} {F : Nat → Int} {B : Int} (h : ∀ b ∈ l, -B ≤ F b ∧ F b ≤ B) : -(B * l.length) ≤ (l.map F).sum ∧ (l.map F).sum ≤ B * l.length := by
  induction l with
  | nil => simp
  | cons b l ih =>
    have ih := ih fun c hc => h c (by simp [hc])
    have hb := h b (by simp)
    have : B * ((b :: l).length : Int) = B * (l.length : Int) + B := by rw [List.length_cons, Int.natCast_add, Int.mul_add]; simp
    rw [List.map_cons, List.sum_cons]
    omega
theorem lsT_bd {xs : List Int} (h8 : xs.length ≤ 8) (a t : Nat) : -128 ≤ lsT xs a t ∧ lsT xs a t ≤ 128 := by
  have := sum_bd2 (l := (loseN xs a xs.length).take t) (F := fun b => (xs.length : Int) - 1 - scN xs b) (B := 16) (fun b _ => by have := scN_bd xs b; omega)
  have h1 : ((loseN xs a xs.length).take t).length ≤ 8 := by rw [List.length_take]; have := loseN_len xs a xs.length; omega
  unfold lsT
  omega
theorem lsT_succ {xs : List Int} {a t : Nat} (h : t < (loseN xs a xs.length).length) : lsT xs a (t + 1) = lsT xs a t + ((xs.length : Int) - 1 - scN xs ((loseN xs a xs.length).getD t 0)) := by
  unfold lsT
  rw [take_snocN h, List.map_append, List.sum_append, getD_nat h]
  simp
theorem lsT_zero (xs : List Int) (a : Nat) : lsT xs a 0 = 0 := by simp [lsT]
theorem pw1_at {s : Int} {xs : List Int} (hp : tourP s xs) {b : Nat} (hb : b < xs.length) : (pwL xs 1).getD b 0 = scN xs b := by
  rw [show pwL xs 1 = pwStep xs (pwL xs 0) from rfl, pwStep_at hb]
  unfold pwAt pwT scN
  rw [List.take_length, pop_mem (tour_wins hp hb).2.2]
  have : ∀ c ∈ memN (winsN xs b) 8, (pwL xs 0).getD c 0 = 1 := fun c hc => by
    have := wins_mem hp hb c hc
    simp [pwL, this]
  rw [List.map_congr_left this]
  generalize memN (winsN xs b) 8 = l
  clear this
  induction l with
  | nil => rfl
  | cons c l ih => rw [List.map_cons, List.sum_cons, ih, List.length_cons]; omega
/-- the row that grows: the power scores, what is lost taken off below a, the first t at a -/
def dsRow (xs P N : List Int) (n a t : Nat) : Prop := ∀ i, i < n → N.getD i 0 = if i < a then P.getD i 0 - lsT xs i (loseN xs i xs.length).length else if i = a then P.getD a 0 - lsT xs a t else P.getD i 0
theorem dsRow_start {xs P : List Int} {n : Nat} : dsRow xs P P n 0 0 := fun i _ => by
  by_cases h : i = 0
  · subst h; simp [lsT_zero]
  · simp [h]
theorem dsRow_next {xs P N : List Int} {n a : Nat} (h : dsRow xs P N n a (loseN xs a xs.length).length) : dsRow xs P N n (a + 1) 0 := fun i hi => by
  rw [h i hi, lsT_zero]
  by_cases h1 : i < a
  · rw [if_pos h1, if_pos (by omega)]
  · rw [if_neg h1]
    by_cases h2 : i = a
    · subst h2; rw [if_pos rfl, if_pos (by omega)]
    · rw [if_neg h2, if_neg (by omega)]
      by_cases h3 : i = a + 1
      · subst h3; simp
      · rw [if_neg h3]
theorem dsRow_step {xs P N : List Int} {n a t : Nat} {v : Int} (hl : N.length = n) (h : dsRow xs P N n a t) (ha : a < n) (hv : P.getD a 0 - lsT xs a (t + 1) = v) : dsRow xs P (N.set a v) n a (t + 1) := fun i hi => by
  by_cases h2 : i = a
  · subst h2
    rw [getD_set_same _ (by omega), if_neg (by omega), if_pos rfl, hv]
  · rw [getD_set_other _ (Ne.symm h2), h i hi, if_neg h2, if_neg h2]
theorem dsRow_at {xs P N : List Int} {n a t : Nat} (h : dsRow xs P N n a t) (ha : a < n) : N.getD a 0 = P.getD a 0 - lsT xs a t := by
  rw [h a ha, if_neg (by omega), if_pos rfl]
theorem dsRow_end {xs N : List Int} {n : Nat} (hn : xs.length = n) (hl : N.length = n) (h : dsRow xs (pwL xs 2) N n n 0) : N = dsL xs :=
  list_ext0 hl (by simp [dsL, hn]) fun i hi => by
    rw [h i hi, if_pos hi, show pwL xs 2 = pwStep xs (pwL xs 1) from rfl, pwStep_at (by omega)]
    simp [dsL, dsAt, show i < xs.length by omega]
def scL (xs : List Int) (k : Nat) : List Int := (List.range k).map (scN xs)
theorem scL_succ (xs : List Int) (k : Nat) : scL xs (k + 1) = scL xs k ++ [scN xs k] := by unfold scL; rw [List.range_succ, List.map_append]; rfl
theorem scL_len (xs : List Int) (k : Nat) : (scL xs k).length = k := by simp [scL]
theorem scL_at (xs : List Int) {k b : Nat} (h : b < k) : (scL xs k).getD b 0 = scN xs b := by simp [scL, h]
end Go.Proofs.YtbkiedhaacapbaaDoor

namespace Go.Proofs.YtbkiedhaacapbaaDoor
open Go.RowKit Go.Sort
set_option maxRecDepth 100000
set_option maxHeartbeats 1000000 in
theorem scores_any (n : Nat) (sl : Value) (xs : List Int) (w : World) (h : Rd w sl xs) (hp : tourP n xs) :
    Calls Tryd.prog 27 #[.agg #[.int .i64 n, sl]] w fun e w' => ∃ A c, e = .returned (.slice A n c) ∧ Own w' w.heap.size (.slice A n c) (scL xs n) ∧ Below w.heap.size w w' := by
  have HR := Lib.hid h
  have HP := Lib.hid hp
  have hs := hp.1
  have hln : xs.length = n := by have := hp.2.1; omega
  have HLN := Lib.hid hln
  have q0 : tourB n xs = true := tourB_true.2 hp
  obtain ⟨A, c, rfl, -, hcm, -⟩ := h
  unfold maxLen at hcm
  rw [hln] at HR ⊢
  clear hln hp
  go_enter Tryd.func27, Tryd.ntmps27
  go_wp2_with fail
  have b0 := below_alloc1 w (.cells #[.int .i64 n, .slice A n c] 25)
  have x0 := TBox.new w n (.slice A n c) 25
  generalize w.alloc (.cells #[.int .i64 n, .slice A n c] 25) = w0 at *
  have HX0 := Lib.hid x0
  have HB0 := Lib.hid b0
  clear x0 b0
  have y0_0 := HX0.out.1
  have y1_0 := HX0.out.2
  go_wp2_with fail
  refine (implTourOk n _ xs _ (HR.out.below HB0.out)).mono ?_
  rintro e w1 ⟨rfl, hb⟩
  have HX1 := Lib.hid (HX0.out.below hb)
  have HB1 := Lib.hid (Below.then HB0.out hb)
  clear hb HX0 HB0 y0_0 y1_0
  have y0_1 := HX1.out.1
  have y1_1 := HX1.out.2
  rw [q0]
  go_wp2
  go_loopw [3, 10] (fun v i wr => ∃ (a : Nat), a ≤ n ∧ i = .int .i64 a ∧ Hid (Own wr (w.heap.size + 1) v (scL xs a)) ∧ Hid (TBox wr w.heap.size n (.slice A n c)) ∧ Hid (Below w.heap.size w wr)) (fun _ i _ => n - (intOf i).toNat)
  case atStart => exact ⟨0, by omega, rfl, Lib.hid (by simpa [scL] using Own.nil_ _ _), HX1, HB1⟩
  case round =>
    obtain ⟨a, ha, rfl, HOa, HX, HBa⟩ := hrel
    clear HX1 HB1 y0_1 y1_1
    by_cases hlt : a < n
    · have y0 := HX.out.1
      have y1 := HX.out.2
      have HMS := Lib.hid (scL_succ xs a)
      have hSC : Hid (((popN 8 (winsN xs a) : Nat) : Int) = scN xs a) := rfl
      have hsc := scN_bd xs a
      go_wp2_with fail
      refine (score_any n (.slice A n c) xs a _ (HR.out.below HBa.out) HP.out (by have := HLN.out; omega)).mono ?_
      rintro e w5 ⟨rfl, hb5⟩
      rw [hSC.out]
      clear hSC
      have HX5 := Lib.hid (HX.out.below hb5)
      have HO5 := Lib.hid (HOa.out.below hb5)
      have HB5 := Lib.hid (Below.then HBa.out hb5)
      clear hb5 HX HOa HBa y0 y1
      have hlen := scL_len xs a
      have hsz := HB5.out.size
      have ho := HO5.out
      generalize scN xs a = y at *
      generalize scL xs a = X at *
      have hgt := World.block_lt_of_cell? _ _ HX5.out.1
      simp only at hgt
      go_wp2_with (at_builtin; refine wp_append1 _ rfl (.tmp 13) (.tmp 17) rfl (w.heap.size + 1) _ _ _ rfl ho (by simp [Act.eval]) (by omega) (by exact hgt) ?_; intro v' w7 hown1 hg1; have HO7 := Lib.hid hown1; have HB7 := Lib.hid (below_append HB5.out hg1 ho (by omega) hgt); have HX7 := Lib.hid (HX5.out.kept hg1 (nb_ne (own_ne (fun k hk => (ho.lt k hk).1) (by omega)))); clear hown1 hg1)
      go_roundw
      case rel => exact ⟨a + 1, by omega, by go_num, by rw [HMS.out]; exact HO7, HX7, HB7⟩
      case measure => simp [intOf]; omega
    · obtain rfl : n = a := by omega
      go_wp2
      obtain ⟨Y, cy, rfl, -, -, -⟩ := HOa.out.form
      rw [scL_len] at *
      go_ret
      exact ⟨Y, cy, rfl, HOa.out.mono (by omega), HBa.out⟩
end Go.Proofs.YtbkiedhaacapbaaDoor

namespace Go.Proofs.YtbkiedhaacapbaaDoor
open Go.RowKit Go.Sort
set_option maxRecDepth 100000
variable {n : Nat} {xs : List Int} {sl : Value} {w : World}
theorem cScore (hp : tourP n xs) (h : Rd w sl xs) (a : Nat) (ha : a < n) : Calls Tryd.prog 29 #[.agg #[.int .i64 n, sl], .int .i64 a] w fun e w' => e = .returned (.int .i64 (scN xs a)) ∧ Below w.heap.size w w' := by
  have := implScoreOf n sl xs a w h
  rwa [show scI n xs a = scN xs a by unfold scI scN; rw [tourB_true.2 hp, in_tour ha, Int.toNat_natCast]; simp] at this
end Go.Proofs.YtbkiedhaacapbaaDoor

namespace Go.Proofs.YtbkiedhaacapbaaDoor
open Go.RowKit Go.Sort
set_option maxRecDepth 100000
def nI (l : List Nat) : List Int := l.map fun (a : Nat) => (a : Int)
theorem nI_len (l : List Nat) : (nI l).length = l.length := by simp [nI]
theorem nI_getD {l : List Nat} {k : Nat} (h : k < l.length) : (nI l).getD k 0 = ((l.getD k 0 : Nat) : Int) := by simp [nI, h]
theorem nI_snoc (l : List Nat) (b : Nat) : nI (l ++ [b]) = nI l ++ [(b : Int)] := by simp [nI]
def lastN (way : List Nat) : Nat := way.getD (way.length - 1) 0
def cand (xs : List Int) (n : Nat) (way : List Nat) : List Nat := (memN (winsN xs (lastN way)) n).filter fun b => !way.contains b
def dfs (xs : List Int) (n : Nat) (want : List Nat → Bool) : Nat → List Nat → Option (List Nat)
  | 0, way => if want way = true then some way else none
  | m + 1, way => (cand xs n way).findSome? fun b => dfs xs n want m (way ++ [b])
theorem fs_hit {β : Type} {l : List Nat} {F : Nat → Option β} {k : Nat} {y : β} (hk : k < l.length) (h0 : ∀ j, j < k → F (l.getD j 0) = none) (hy : F (l.getD k 0) = some y) : l.findSome? F = some y := by
  have e : l = l.take k ++ l.getD k 0 :: l.drop (k + 1) := by
    rw [getD_nat hk, ← List.drop_eq_getElem_cons hk, List.take_append_drop]
  have h1 : (l.take k).findSome? F = none := by
    rw [List.findSome?_eq_none_iff]
    intro x hx
    obtain ⟨j, hj, rfl⟩ := List.getElem_of_mem hx
    rw [List.length_take] at hj
    have := h0 j (by omega)
    rw [getD_nat (show j < l.length by omega)] at this
    simpa using this
  rw [e, List.findSome?_append, h1, List.findSome?_cons, hy]
  rfl
theorem fs_miss {β : Type} {l : List Nat} {F : Nat → Option β} (h0 : ∀ j, j < l.length → F (l.getD j 0) = none) : l.findSome? F = none := by
  rw [List.findSome?_eq_none_iff]
  intro x hx
  obtain ⟨j, hj, rfl⟩ := List.getElem_of_mem hx
  have := h0 j hj
  rwa [getD_nat hj] at this
theorem dfs_len {xs : List Int} {n : Nat} {want : List Nat → Bool} : ∀ {m : Nat} {way L : List Nat}, dfs xs n want m way = some L → L.length = way.length + m := by
  intro m
  induction m with
  | zero =>
    intro way L h
    rw [dfs] at h
    split at h
    · injection h with h; subst h; rfl
    · cases h
  | succ m ih =>
    intro way L h
    rw [dfs] at h
    obtain ⟨b, -, hb⟩ := List.exists_of_findSome?_eq_some h
    have := ih hb
    rw [List.length_append, List.length_singleton] at this
    omega
def setW (way : List Nat) : Nat := way.foldl (fun s b => s ||| 2 ^ b) 0
theorem setW_snoc (l : List Nat) (b : Nat) : setW (l ++ [b]) = setW l ||| 2 ^ b := by simp [setW, List.foldl_append]
theorem take_snocN' {l : List Nat} {k : Nat} (hk : k < l.length) : l.take (k + 1) = l.take k ++ [l.getD k 0] := by
  rw [List.take_succ_eq_append_getElem hk, getD_nat hk]
theorem testBit_setW (l : List Nat) (j : Nat) : (setW l).testBit j = l.contains j := by
  have : ∀ k, k ≤ l.length → (setW (l.take k)).testBit j = (l.take k).contains j := by
    intro k
    induction k with
    | zero => intro _; simp [setW]
    | succ k ih =>
      intro hk
      rw [take_snocN' (by omega), setW_snoc, Nat.testBit_or, ih (by omega), Nat.testBit_two_pow, Bool.eq_iff_iff]
      simp
      exact ⟨fun h => h.imp id Eq.symm, fun h => h.imp id Eq.symm⟩
  have := this l.length (Nat.le_refl _)
  rwa [List.take_length] at this
theorem setW_lt {l : List Nat} {n : Nat} (h : ∀ x ∈ l, x < n) : setW l < 2 ^ n := by
  apply Nat.lt_pow_two_of_testBit
  intro i hi
  rw [testBit_setW]
  rcases q : l.contains i with _ | _
  · rfl
  · have := h i (by simpa using q); omega
theorem memN_lessW (S n : Nat) (way : List Nat) : memN (less S (setW way)) n = (memN S n).filter fun b => !way.contains b := by
  unfold memN
  rw [List.filter_filter]
  refine List.filter_congr fun x _ => ?_
  rw [testBit_less, testBit_setW, Bool.and_comm]
theorem cand_lt {xs : List Int} {n : Nat} {way : List Nat} {b : Nat} (h : b ∈ cand xs n way) : b < n ∧ (winsN xs (lastN way)).testBit b = true ∧ ¬ b ∈ way := by
  unfold cand at h
  rw [List.mem_filter] at h
  exact ⟨(mem_memN.1 h.1).1, (mem_memN.1 h.1).2, by simpa using h.2⟩
theorem or_shl'' (S a : Nat) (hS : S < 4611686018427387904) (h : a ≤ 61) : bits .or .i64 (S : Int) (wrap64 (2 ^ a)) = ((S ||| 2 ^ a : Nat) : Int) := or_shl S a hS h
theorem own_prefix {w : World} {base g n c : Nat} {xs : List Int} {y : Int} (hn : xs.length = n) (h : Own w base (.slice (some ⟨g, 0, none⟩) (n + 1) c) (xs ++ [y])) : Own w base (.slice (some ⟨g, 0, none⟩) n c) xs := by
  subst hn
  refine ⟨by simp, .inr ?_⟩
  rcases h.2 with ⟨e, -⟩ | ⟨g', cap, cur, e, hb, hh, hle, hm, hs, ht⟩
  · cases e
  · injection e with e1 e2 e3
    injection e1 with e1
    injection e1 with e1 _ _
    subst e1 e3
    refine ⟨g, c, cur, rfl, hb, hh, by simp at hle; omega, hm, hs, ?_⟩
    have h1 := congrArg (List.take xs.length) ht
    rw [List.take_take] at h1
    simp at h1
    simpa using h1
theorem run_append1k (w : World) (ty : TypeId) (base : Nat) (v : Value) (xs : List Int) (y : Int) (gx : Nat) (hown : Own w base v xs) (hc : w.cell? ⟨gx, 0, none⟩ = some (.int .i64 y)) (hlen : xs.length ≤ 1099511627776) (hbase : base ≤ w.heap.size) :
    ∃ g c w', (Builtin.append_ #[23, 23] ty #[v, .slice (some ⟨gx, 0, none⟩) 1 1]).run Tryd.prog w = .ok (.slice (some ⟨g, 0, none⟩) (xs.length + 1) c) w' ∧
      Own w' base (.slice (some ⟨g, 0, none⟩) (xs.length + 1) c) (xs ++ [y]) ∧ Own w' base v xs ∧ w.grownBy w' v.ownBlock ∧ (v = .slice (some ⟨g, 0, none⟩) xs.length c ∨ g = w.heap.size) := by
  obtain ⟨i0, hi, hz0, hz1, hz2⟩ := info_parts i64_info
  have hnews : ∀ j u, [Value.int .i64 y][j]? = some u → w.cell? ((⟨gx, 0, none⟩ : Addr).add j) = some u := by
    intro j u hj
    match j, hj with
    | 0, hj => simp at hj; subst hj; simpa [Addr.add] using hc
  have h1 : ∀ u ∈ [Value.int .i64 y], u.oneCell' = true := by intro u hu; simp at hu; subst hu; rfl
  obtain ⟨v', w', hr, h2, h3, -, h5⟩ := run_append_own_at (P := Tryd.prog) w base 23 ty 3 i0 (.int .i64 0) 1 8 Tryd.underlying23 hi hz0 hz1 hz2 rfl (by decide) v xs.length (xs.map (Value.int .i64)) hown ⟨gx, 0, none⟩ 1 1 [.int .i64 y] rfl hnews h1 (by unfold maxLen; omega) (by omega) hbase
  have h2' : Own w' base v' (xs ++ [y]) := by unfold Own; rw [List.length_append, List.map_append]; exact h2
  obtain ⟨A, c', e, -, -, hA⟩ := h2'.form
  obtain ⟨g', rfl, -, -⟩ := hA (by simp)
  rw [List.length_append, List.length_singleton] at e
  subst e
  rcases hown.2 with ⟨rfl, h0⟩ | ⟨g, cap, cur, rfl, hbg, hg, hnc, hcm, hcs, htake⟩
  · refine ⟨g', c', w', hr, h2', ?_, h3, .inr ?_⟩
    · rw [show xs = [] from List.eq_nil_of_length_eq_zero h0]; exact Own.nil_ _ _
    · rcases h5 with h | h
      · simp [Value.ownBlock] at h
      · simpa [Value.ownBlock] using h
  · by_cases hroom : xs.length + 1 ≤ cap
    · have hr' := run_append_room (P := Tryd.prog) w 23 ty 3 i0 Tryd.underlying23 hi g xs.length cap cur hg ⟨gx, 0, none⟩ 1 1 [.int .i64 y] (by rw [hz1]; rfl) hnews h1 hroom (by rw [hz1]; simp; omega)
      have e := hr.symm.trans hr'
      injection e with e1 e2
      injection e1 with e1 e3 e4
      injection e1 with e1
      injection e1 with e1 _ _
      subst e1 e4
      exact ⟨g', c', w', hr, h2', own_prefix rfl h2', h3, .inl rfl⟩
    · have hr' := run_append_grow (P := Tryd.prog) w 23 ty 3 i0 (.int .i64 0) Tryd.underlying23 hi hz0 ⟨g, 0, none⟩ xs.length cap (xs.map (Value.int .i64)) (by rw [hz1]; simp) (hown.cells (g := g) rfl) ⟨gx, 0, none⟩ 1 1 [.int .i64 y] (by rw [hz1]; rfl) hnews (by omega) (by omega) (growslice_fits (by omega) (by rw [hz2]; omega))
      have e := hr.symm.trans hr'
      injection e with e1 e2
      injection e1 with e1 e3 e4
      injection e1 with e1
      injection e1 with e1 _ _
      subst e1 e2
      exact ⟨_, c', _, hr, h2', World.ownsRow.alloc (World.ownsRow.drew hown) _, h3, .inr rfl⟩
theorem step_append1k {ops : Array Oper} {o : Oper} {a : Act} {K : Act → World → Prop} {Q : Exit → Act → World → Prop} {E : Prop} (w : World) (hgd : o.guard = none) (s x : Operand)
    (ho : o.op = .call { callee := .builtin .append, args := #[s, x], argTypes := #[23, 23] })
    (base : Nat) (v : Value) (xs : List Int) (n : Nat) (hn : xs.length = n) (y : Int) (gx : Nat) (hs : a.eval s = v) (hown : Own w base v xs) (hx : a.eval x = .slice (some ⟨gx, 0, none⟩) 1 1) (hc : w.cell? ⟨gx, 0, none⟩ = some (.int .i64 y))
    (hlen : n ≤ 1099511627776) (hbase : base ≤ w.heap.size)
    (h : ∀ g c w', Own w' base (.slice (some ⟨g, 0, none⟩) (n + 1) c) (xs ++ [y]) → Own w' base v xs → w.grownBy w' v.ownBlock → (v = .slice (some ⟨g, 0, none⟩) n c ∨ g = w.heap.size) → K (a.put o.dst (.slice (some ⟨g, 0, none⟩) (n + 1) c)) w') :
    if Region.wanted o (yielded ops a.tmps) = true then Oper.wp Tryd.prog o a w K Q else E := by
  subst hn
  have hw : Region.wanted o (yielded ops a.tmps) = true := by simp [Region.wanted, hgd]
  rw [if_pos hw]
  obtain ⟨g, c, w', hr, h1, h2, h3, h4⟩ := run_append1k w o.type base v xs y gx hown hc hlen hbase
  unfold Oper.wp execOp
  simp only [ho, resolve, invoke, builtin, Sem.run_bind, Sem.run_pure, Result.andThen_ok, List.map_toArray, List.map_cons, List.map_nil, hs, hx, hr]
  exact h g c w' h1 h2 h3 h4
end Go.Proofs.YtbkiedhaacapbaaDoor

