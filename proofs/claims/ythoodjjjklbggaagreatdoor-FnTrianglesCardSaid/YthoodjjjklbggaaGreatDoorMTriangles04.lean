/- Texts put together: Rnm, Ways, Reach, Climb, TrP, LwS, TrC0, Clone. -/
import Derived.Test.YthoodjjjklbggaaGreatDoorMTriangles03
import Derived.Test.YthoodjjjklbggaaGreatDoorMTriangles02
import Derived.Test.YthoodjjjklbggaaGreatDoorMTriangles01
namespace Go.Proofs.YthoodjjjklbggaaGreatDoor
open Go.RowKit Go.Sort
set_option maxRecDepth 100000

/-! renamed tours -/
abbrev bt (xs : List Int) (a b : Nat) : Bool := (winsN xs a).testBit b
theorem nm_list {n : Nat} (f : Nat → Nat) {a : Nat} (h : a < n) : nmN ((List.range n).map fun a => (f a : Int)) a = f a := by
  unfold nmN; simp [h]
theorem perm_list {n : Nat} (f : Nat → Nat) (h1 : ∀ a, a < n → f a < n) (h2 : ∀ a b, a < n → b < n → f a = f b → a = b) : PermP n ((List.range n).map fun a => (f a : Int)) := by
  refine ⟨by simp, fun x hx => ?_, ?_⟩
  · obtain ⟨a, ha, rfl⟩ := List.mem_map.1 hx
    rw [List.mem_range] at ha
    have := h1 a ha
    omega
  · unfold List.Nodup
    rw [List.pairwise_iff_getElem]
    intro i j hi hj hij e
    simp only [List.length_map, List.length_range] at hi hj
    simp only [List.getElem_map, List.getElem_range] at e
    have := h2 i j hi hj (by exact_mod_cast e)
    omega
open Classical in
noncomputable def invF (n : Nat) (ns : List Int) (i : Nat) : Nat := if h : ∃ a, a < n ∧ nmN ns a = i then Classical.choose h else 0
theorem inv_spec {n : Nat} {ns : List Int} (hP : PermP n ns) {i : Nat} (hi : i < n) : invF n ns i < n ∧ nmN ns (invF n ns i) = i := by
  have hx := nm_surj hP hi
  unfold invF
  rw [dif_pos hx]
  exact Classical.choose_spec hx
theorem inv_nm {n : Nat} {ns : List Int} (hP : PermP n ns) {a : Nat} (ha : a < n) : invF n ns (nmN ns a) = a := by
  have h := inv_spec hP (nm_val hP ha).2
  exact nm_inj hP h.1 ha h.2
theorem rn_exists {xs ns : List Int} {n : Nat} (hn : xs.length = n) (hP : PermP n ns) : rnF xs ns n (rnL xs ns) n 0 := by
  have h : rnF xs ns n ((List.range n).map fun i => ((setOf (fun j => bt xs (invF n ns i) (invF n ns j)) n : Nat) : Int)) n 0 := by
    have e : ∀ i, i < n → ((List.range n).map fun i => ((setOf (fun j => bt xs (invF n ns i) (invF n ns j)) n : Nat) : Int)).getD i 0 = ((setOf (fun j => bt xs (invF n ns i) (invF n ns j)) n : Nat) : Int) := fun i hi => by simp [hi]
    refine ⟨by simp, fun i hi => ⟨_, e i hi, setOf_lt _ _⟩, fun p q hp hq => ?_⟩
    rw [e _ (nm_val hP hp).2]
    show (setOf (fun j => bt xs (invF n ns (nmN ns p)) (invF n ns j)) n).testBit (nmN ns q) = _
    rw [testBit_setOf, inv_nm hP hp, inv_nm hP hq]
    simp [hp, (nm_val hP hq).2]
  have e := rnL_eq hn hP h
  rw [e] at h
  exact h
theorem rn_len {xs ns : List Int} {n : Nat} (hn : xs.length = n) (hP : PermP n ns) : (rnL xs ns).length = n := (rn_exists hn hP).1
theorem rn_bit {xs ns : List Int} {n : Nat} (hn : xs.length = n) (hP : PermP n ns) {p q : Nat} (hp : p < n) (hq : q < n) : bt (rnL xs ns) (nmN ns p) (nmN ns q) = bt xs p q := by
  have := (rn_exists hn hP).2.2 p q hp hq
  unfold bt winsN at *
  rw [this]
  simp [hp]
theorem rn_of {xs ns N : List Int} {n : Nat} (hn : xs.length = n) (hP : PermP n ns) (h1 : N.length = n) (h2 : ∀ i, i < n → ∃ S : Nat, N.getD i 0 = (S : Int) ∧ S < 2 ^ n) (h3 : ∀ p q, p < n → q < n → bt N (nmN ns p) (nmN ns q) = bt xs p q) : N = rnL xs ns :=
  rnL_eq hn hP ⟨h1, h2, fun p q hp hq => by
    have := h3 p q hp hq
    unfold bt winsN at *
    rw [this]; simp [hp]⟩
theorem rn_small {xs ns : List Int} {n : Nat} (hn : xs.length = n) (hP : PermP n ns) {i : Nat} (hi : i < n) : ∃ S : Nat, (rnL xs ns).getD i 0 = (S : Int) ∧ S < 2 ^ n := (rn_exists hn hP).2.1 i hi
/-- one renaming behind another -/
theorem rn_comp {xs p q : List Int} {n : Nat} (hn : xs.length = n) (hP : PermP n p) (hQ : PermP n q) : ∃ r, PermP n r ∧ rnL (rnL xs p) q = rnL xs r := by
  refine ⟨(List.range n).map fun a => ((nmN q (nmN p a) : Nat) : Int), perm_list _ (fun a ha => (nm_val hQ (nm_val hP ha).2).2) (fun a b ha hb e => nm_inj hP ha hb (nm_inj hQ (nm_val hP ha).2 (nm_val hP hb).2 e)), ?_⟩
  refine rn_of hn (perm_list _ (fun a ha => (nm_val hQ (nm_val hP ha).2).2) (fun a b ha hb e => nm_inj hP ha hb (nm_inj hQ (nm_val hP ha).2 (nm_val hP hb).2 e))) (rn_len (rn_len hn hP) hQ) (fun i hi => rn_small (rn_len hn hP) hQ hi) fun a b ha hb => ?_
  rw [nm_list _ ha, nm_list _ hb, rn_bit (rn_len hn hP) hQ (nm_val hP ha).2 (nm_val hP hb).2, rn_bit hn hP ha hb]
/-- what is asked of a list that is a tour, bit by bit -/
theorem tour_bits {s : Int} {xs : List Int} (hp : tourP s xs) : (∀ i, i < xs.length → ∃ S : Nat, xs.getD i 0 = (S : Int) ∧ S < 2 ^ xs.length) ∧ (∀ a, a < xs.length → bt xs a a = false) ∧ (∀ a b, a < xs.length → b < xs.length → a ≠ b → bt xs a b = !bt xs b a) := by
  have hs := hp.2.1
  have hsn : s.toNat = xs.length := by omega
  refine ⟨fun i hi => ?_, fun a ha => ?_, fun a b ha hb hab => ?_⟩
  · have := tour_wins hp hi
    rw [hsn] at this
    exact ⟨_, this.1, this.2.1⟩
  · have := (hp.2.2.2 a ha).1
    rw [bit_nat hp ha] at this
    exact this
  · have key : ∀ a b, a < xs.length → b < xs.length → b < a → bt xs a b = !bt xs b a := fun a b ha hb h => by
      have := (hp.2.2.2 a ha).2 b h
      rw [bit_nat hp ha, bit_nat hp hb] at this
      show (winsN xs a).testBit b = !(winsN xs b).testBit a
      revert this
      cases (winsN xs a).testBit b <;> cases (winsN xs b).testBit a <;> simp
    rcases Nat.lt_or_gt_of_ne hab with h | h
    · rw [key b a hb ha h]; simp
    · exact key a b ha hb h
theorem bitI_bt {xs : List Int} {a b S : Nat} (h : xs.getD a 0 = (S : Int)) : bitI (xs.getD a 0) b = bt xs a b := by
  unfold bt winsN
  rw [h]
  show bitI (S : Int) b = S.testBit b
  unfold bitI
  rw [Nat.testBit_eq_decide_div_mod_eq, decide_eq_decide]
  have : (S : Int) / 2 ^ b % 2 = ((S / 2 ^ b % 2 : Nat) : Int) := by simp
  rw [this]; omega
theorem tour_of_bits {s : Int} {xs : List Int} (h1 : 1 ≤ s ∧ s ≤ 8) (h2 : (xs.length : Int) = s) (hb : ∀ i, i < xs.length → ∃ S : Nat, xs.getD i 0 = (S : Int) ∧ S < 2 ^ xs.length) (hd : ∀ a, a < xs.length → bt xs a a = false) (hx : ∀ a b, a < xs.length → b < xs.length → a ≠ b → bt xs a b = !bt xs b a) : tourP s xs := by
  refine ⟨h1, h2, fun x hx => ?_, fun a ha => ⟨?_, fun b hb' => ?_⟩⟩
  · obtain ⟨i, hi, rfl⟩ := List.getElem_of_mem hx
    obtain ⟨S, e, hS⟩ := hb i hi
    rw [show xs.getD i 0 = xs[i] by simp [hi]] at e
    rw [e, show s.toNat = xs.length by omega]
    have : ((2 : Int) ^ xs.length) = ((2 ^ xs.length : Nat) : Int) := by simp
    rw [this]; omega
  · obtain ⟨S, e, -⟩ := hb a ha
    rw [bitI_bt e]; exact hd a ha
  · obtain ⟨S, e, -⟩ := hb a ha
    obtain ⟨T, e', -⟩ := hb b (by omega)
    rw [bitI_bt e, bitI_bt e', hx a b ha (by omega) (by omega)]
    cases bt xs b a <;> simp
theorem rn_tour {s : Int} {xs ns : List Int} (hp : tourP s xs) (hP : PermP xs.length ns) : tourP s (rnL xs ns) := by
  have hl := rn_len rfl hP
  have hb := tour_bits hp
  refine tour_of_bits hp.1 (by rw [hl]; exact hp.2.1) (fun i hi => ?_) (fun a ha => ?_) (fun a b ha hb' hab => ?_)
  · rw [hl] at hi ⊢; exact rn_small rfl hP hi
  · rw [hl] at ha
    obtain ⟨p, hp', rfl⟩ := nm_surj hP ha
    rw [rn_bit rfl hP hp' hp']; exact hb.2.1 p hp'
  · rw [hl] at ha hb'
    obtain ⟨p, hp', rfl⟩ := nm_surj hP ha
    obtain ⟨q, hq', rfl⟩ := nm_surj hP hb'
    rw [rn_bit rfl hP hp' hq', rn_bit rfl hP hq' hp']
    exact hb.2.2 p q hp' hq' (fun e => hab (by rw [e]))
def idL (n : Nat) : List Int := (List.range n).map fun (a : Nat) => (a : Int)
theorem id_perm (n : Nat) : PermP n (idL n) := perm_list (fun a => a) (fun _ h => h) (fun _ _ _ _ h => h)
theorem rn_id {s : Int} {xs : List Int} (hp : tourP s xs) : rnL xs (idL xs.length) = xs := by
  refine (rn_of rfl (id_perm _) rfl (tour_bits hp).1 fun p q hp' hq => ?_).symm
  have e := fun {a : Nat} (h : a < xs.length) => nm_list (n := xs.length) (fun a => a) h
  unfold idL
  rw [e hp', e hq]
/-- back -/
theorem rn_back {s : Int} {xs p : List Int} (hp : tourP s xs) (hP : PermP xs.length p) : ∃ r, PermP xs.length r ∧ rnL (rnL xs p) r = xs := by
  have hl := rn_len rfl hP
  have hQ : PermP xs.length ((List.range xs.length).map fun i => ((invF xs.length p i : Nat) : Int)) := perm_list _ (fun a ha => (inv_spec hP ha).1) (fun a b ha hb e => by
    rw [← (inv_spec hP ha).2, ← (inv_spec hP hb).2, e])
  refine ⟨_, hQ, ?_⟩
  refine (rn_of hl hQ rfl (tour_bits hp).1 fun a b ha hb => ?_).symm
  rw [nm_list _ ha, nm_list _ hb]
  have h1 := inv_spec hP ha
  have h2 := inv_spec hP hb
  have := rn_bit rfl hP h1.1 h2.1
  rw [h1.2, h2.2] at this
  exact this.symm
end Go.Proofs.YthoodjjjklbggaaGreatDoor

namespace Go.Proofs.YthoodjjjklbggaaGreatDoor
open Go.RowKit Go.Sort

/-- the ways from a through all of S -/
def waysN (xs : List Int) (n : Nat) : Nat → Nat → Nat → Nat
  | 0, _, _ => 1
  | f + 1, S, a => if S = 0 then 1 else ((memN (S &&& winsN xs a) n).map fun b => waysN xs n f (less S (2 ^ b)) b).sum
theorem memN_nodup (S n : Nat) : (memN S n).Nodup := List.Pairwise.filter _ List.nodup_range
theorem memN_less (S n b : Nat) : memN (less S (2 ^ b)) n = (memN S n).filter (· != b) := by
  unfold memN
  rw [List.filter_filter]
  refine List.filter_congr fun x _ => ?_
  rw [testBit_less, Nat.testBit_two_pow, Bool.and_comm]
  congr 1
  by_cases e : b = x
  · subst e; simp
  · have : ¬ x = b := fun h => e h.symm
    simp [e, this]
theorem card_less {S n b : Nat} (h : b ∈ memN S n) : (memN (less S (2 ^ b)) n).length + 1 = (memN S n).length := by
  rw [memN_less, ← (memN_nodup S n).erase_eq_filter, List.length_erase_of_mem h]
  have := List.length_pos_of_mem h
  omega
theorem card_zero {S n : Nat} (hS : S < 2 ^ n) : (memN S n).length = 0 ↔ S = 0 := by
  constructor
  · intro h
    have h0 : memN S n = [] := List.length_eq_zero_iff.1 h
    apply Nat.eq_of_testBit_eq
    intro j
    rw [Nat.zero_testBit]
    rcases Nat.lt_or_ge j n with hj | hj
    · rcases hb : S.testBit j with _ | _
      · rfl
      · have : j ∈ memN S n := mem_memN.2 ⟨hj, hb⟩
        rw [h0] at this; cases this
    · exact Nat.testBit_lt_two_pow (Nat.lt_of_lt_of_le hS (Nat.pow_le_pow_right (by decide) hj))
  · rintro rfl
    simp [memN]
theorem sum_le {l : List Nat} {F : Nat → Nat} {B : Nat} (h : ∀ b ∈ l, F b ≤ B) : (l.map F).sum ≤ l.length * B := by
  induction l with
  | nil => simp
  | cons b l ih =>
    rw [List.map_cons, List.sum_cons, List.length_cons, Nat.succ_mul]
    have := h b (by simp)
    have := ih fun c hc => h c (by simp [hc])
    omega
theorem waysN_le (xs : List Int) (n : Nat) (hn : n ≤ 8) (f S a : Nat) (hf : (memN S n).length ≤ f) : waysN xs n f S a ≤ 8 ^ (memN S n).length := by
  induction f generalizing S a with
  | zero => simp only [waysN]; exact Nat.one_le_pow _ _ (by decide)
  | succ f ih =>
    simp only [waysN]
    split
    · exact Nat.one_le_pow _ _ (by decide)
    · have hmem : ∀ b ∈ memN (S &&& winsN xs a) n, b ∈ memN S n := fun b hb => by
        have := mem_memN.1 hb
        rw [Nat.testBit_and, Bool.and_eq_true] at this
        exact mem_memN.2 ⟨this.1, this.2.1⟩
      rcases hc : (memN S n).length with _ | c
      · have : memN (S &&& winsN xs a) n = [] := by
          rw [List.eq_nil_iff_forall_not_mem]
          intro b hb
          have := List.length_pos_of_mem (hmem b hb); omega
        rw [this]; simp
      · refine Nat.le_trans (sum_le (B := 8 ^ c) fun b hb => ?_) ?_
        · have h1 := card_less (hmem b hb)
          have := ih (less S (2 ^ b)) b (by omega)
          rwa [show (memN (less S (2 ^ b)) n).length = c by omega] at this
        · rw [Nat.pow_succ, Nat.mul_comm]
          exact Nat.mul_le_mul_left _ (Nat.le_trans (memN_len _ _) hn)
theorem sum_take {l : List Nat} {F : Nat → Nat} {k : Nat} (hk : k < l.length) : ((l.take (k + 1)).map F).sum = ((l.take k).map F).sum + F (l.getD k 0) := by
  rw [take_snocN hk, List.map_append, List.sum_append, getD_nat hk]; simp
noncomputable def waysI (s : Int) (xs : List Int) (a : Int) : Int := if (tourB s xs && inB a 0 (s - 1)) = true then (waysN xs xs.length 8 (less (2 ^ xs.length - 1) (2 ^ a.toNat)) a.toNat : Int) else -1
theorem wins_less {n S W : Nat} (hW : W < 2 ^ n) : less W (less (2 ^ n - 1) S) = S &&& W := Nat.eq_of_testBit_eq fun j => by
  rw [testBit_less, testBit_less, testBit_full, Nat.testBit_and]
  rcases Nat.lt_or_ge j n with hj | hj
  · simp only [hj, decide_true, Bool.true_and, Bool.not_not]
    rw [Bool.and_comm]
  · rw [Nat.testBit_lt_two_pow (Nat.lt_of_lt_of_le hW (Nat.pow_le_pow_right (by decide) hj))]; simp
theorem met_more {n S b : Nat} (hb : b < n) : less (2 ^ n - 1) S ||| 2 ^ b = less (2 ^ n - 1) (less S (2 ^ b)) := Nat.eq_of_testBit_eq fun j => by
  rw [Nat.testBit_or, testBit_less, testBit_less, testBit_less, testBit_full, Nat.testBit_two_pow]
  by_cases e : b = j
  · subst e; simp [hb]
  · simp [e]
theorem met_all {n S : Nat} (hS : S < 2 ^ n) : less (2 ^ n - 1) S = 2 ^ n - 1 ↔ S = 0 := by
  constructor
  · intro h
    apply Nat.eq_of_testBit_eq
    intro j
    rw [Nat.zero_testBit]
    rcases Nat.lt_or_ge j n with hj | hj
    · have := congrArg (fun x => Nat.testBit x j) h
      simp only [testBit_less, testBit_full, hj, decide_true, Bool.true_and] at this
      simpa using this
    · exact Nat.testBit_lt_two_pow (Nat.lt_of_lt_of_le hS (Nat.pow_le_pow_right (by decide) hj))
  · rintro rfl
    exact Nat.eq_of_testBit_eq fun j => by rw [testBit_less]; simp
theorem less_full_lt (n S : Nat) : less (2 ^ n - 1) S < 2 ^ n := less_lt (by have := Nat.two_pow_pos n; omega)
theorem sub_shl (U a : Nat) (hU : U < 256) (ha : a < 8) (h : U.testBit a = true) : wrap64 ((U : Int) - wrap64 (2 ^ a)) = ((less U (2 ^ a) : Nat) : Int) := by
  have h2 := sub_less (S := U) (a := a) (Nat.lt_trans hU (by decide)) (by omega) h
  have h3 : 2 ^ a ≤ U := Nat.ge_two_pow_of_testBit h
  have h5 : U - 2 ^ a < 9223372036854775808 := Nat.lt_of_le_of_lt (Nat.sub_le _ _) (by omega)
  rw [shl_nat a (by omega), ← h2, ← Int.natCast_sub h3]
  exact wrap64_nat _ h5
theorem less_less {n a : Nat} (h : a < n) : 2 ^ a = less (2 ^ n - 1) (less (2 ^ n - 1) (2 ^ a)) := Nat.eq_of_testBit_eq fun j => by
  rw [testBit_less, testBit_less, testBit_full, Nat.testBit_two_pow]
  by_cases e : a = j
  · subst e; simp [h]
  · simp [e]
end Go.Proofs.YthoodjjjklbggaaGreatDoor

namespace Go.Proofs.YthoodjjjklbggaaGreatDoor
open Go.RowKit Go.Sort

theorem orK_ge (xs : List Int) (l : List Nat) (S : Nat) : S ≤ orK xs l S := by
  induction l generalizing S with
  | nil => exact Nat.le_refl _
  | cons b l ih =>
    unfold orK
    rw [List.foldl_cons]
    exact Nat.le_trans Nat.left_le_or (ih _)
theorem orK_ltn {n : Nat} {xs : List Int} (hw : ∀ b, b < n → winsN xs b < 2 ^ n) {l : List Nat} (hl : ∀ b ∈ l, b < n) {S : Nat} (hS : S < 2 ^ n) : orK xs l S < 2 ^ n := by
  induction l generalizing S with
  | nil => exact hS
  | cons b l ih =>
    unfold orK
    rw [List.foldl_cons]
    exact ih (fun c hc => hl c (by simp [hc])) (Nat.or_lt_two_pow hS (hw b (hl b (by simp))))
/-- more and more that the found beat, until there is no more -/
def itN (xs : List Int) (n : Nat) : Nat → Nat → Nat
  | 0, S => S
  | f + 1, S => if orK xs (memN S n) S = S then S else itN xs n f (orK xs (memN S n) S)
theorem itN_stop {xs : List Int} {n f S : Nat} (h : orK xs (memN S n) S = S) : itN xs n f S = S := by
  cases f with
  | zero => rfl
  | succ f => simp [itN, h]
theorem itN_go {xs : List Int} {n f S : Nat} (h : ¬ orK xs (memN S n) S = S) (hf : 0 < f) : itN xs n f S = itN xs n (f - 1) (orK xs (memN S n) S) := by
  obtain ⟨f, rfl⟩ : ∃ g, f = g + 1 := ⟨f - 1, by omega⟩
  simp [itN, h]
def reachN (xs : List Int) (a : Nat) : Nat := itN xs xs.length 256 (2 ^ a)
noncomputable def reachI (s : Int) (xs : List Int) (a : Int) : Int := if (tourB s xs && inB a 0 (s - 1)) = true then (reachN xs a.toNat : Int) else 0
end Go.Proofs.YthoodjjjklbggaaGreatDoor

namespace Go.Proofs.YthoodjjjklbggaaGreatDoor
open Go.RowKit Go.Sort

theorem pop_mem {S : Nat} (h : S < 256) : popN 8 S = (memN S 8).length := by
  have : ∀ S : Fin 256, popN 8 S.1 = (memN S.1 8).length := by decide +kernel
  exact this ⟨S, h⟩
theorem card_mono {S T n : Nat} (h : ∀ j, S.testBit j = true → T.testBit j = true) : (memN S n).length ≤ (memN T n).length := by
  unfold memN
  rw [← List.countP_eq_length_filter, ← List.countP_eq_length_filter]
  exact List.countP_mono_left fun j _ hj => h j hj
theorem testBit_orK (xs : List Int) (l : List Nat) (S j : Nat) : (orK xs l S).testBit j = (S.testBit j || l.any fun b => (winsN xs b).testBit j) := by
  induction l generalizing S with
  | nil => simp [orK]
  | cons b l ih =>
    have : orK xs (b :: l) S = orK xs l (S ||| winsN xs b) := by simp [orK]
    rw [this, ih, Nat.testBit_or, List.any_cons, Bool.or_assoc]
theorem mem_loseN {xs : List Int} {a n b : Nat} : b ∈ loseN xs a n ↔ b < n ∧ bitI (xs.getD b 0) a = true := by simp [loseN]
/-- two players: one of them beats the other one, and not both -/
theorem beat_one {s : Int} {xs : List Int} (hp : tourP s xs) {a b : Nat} (ha : a < xs.length) (hb : b < xs.length) (hab : a ≠ b) : (winsN xs a).testBit b = !(winsN xs b).testBit a := by
  have h1 : ∀ a b, a < xs.length → b < a → (winsN xs a).testBit b ≠ (winsN xs b).testBit a := fun a b ha hb => by
    have := (hp.2.2.2 a ha).2 b hb
    rwa [bit_nat hp ha, bit_nat hp (by omega : b < xs.length)] at this
  rcases Nat.lt_or_gt_of_ne hab with h | h
  · have := h1 b a hb h
    revert this; cases (winsN xs a).testBit b <;> cases (winsN xs b).testBit a <;> simp
  · have := h1 a b ha h
    revert this; cases (winsN xs a).testBit b <;> cases (winsN xs b).testBit a <;> simp
theorem beat_self {s : Int} {xs : List Int} (hp : tourP s xs) {a : Nat} (ha : a < xs.length) : (winsN xs a).testBit a = false := by
  have := (hp.2.2.2 a ha).1
  rwa [bit_nat hp ha] at this
theorem wins_hi {s : Int} {xs : List Int} (hp : tourP s xs) {a b : Nat} (ha : a < xs.length) (hb : xs.length ≤ b) : (winsN xs a).testBit b = false := by
  have h1 := (tour_wins hp ha).2.1
  have h2 := hp.2.1
  exact Nat.testBit_lt_two_pow (Nat.lt_of_lt_of_le h1 (Nat.pow_le_pow_right (by decide) (by omega)))
theorem kstK_best {xs : List Int} {a : Nat} {l : List Nat} (ha : a ∉ l) :
    (l = [] ∧ kstK xs a l = a) ∨ (kstK xs a l ∈ l ∧ ∀ b ∈ l, popN 8 (winsN xs b) ≤ popN 8 (winsN xs (kstK xs a l))) := by
  rcases List.eq_nil_or_concat l with rfl | ⟨l', b, rfl⟩
  · exact .inl ⟨rfl, rfl⟩
  · right
    rw [List.concat_eq_append] at ha ⊢
    have hn : l'.length < (l' ++ [b]).length := by simp
    have ih := kstK_best (xs := xs) (a := a) (l := l') (fun h => ha (by simp [h]))
    have hb : a ≠ b := fun h => ha (by simp [h])
    rw [kstK_snoc]
    unfold stepF
    rcases ih with ⟨rfl, e⟩ | ⟨hm, hx⟩
    · rw [e]; simp
    · have hne : kstK xs a l' ≠ a := fun h => ha (by rw [h] at hm; simp [hm])
      split
      · rename_i h
        rcases h with h | h
        · exact absurd h hne
        · refine ⟨by simp, fun c hc => ?_⟩
          rw [List.mem_append, List.mem_singleton] at hc
          rcases hc with hc | rfl
          · have := hx c hc; omega
          · exact Nat.le_refl _
      · rename_i h
        refine ⟨by simp [hm], fun c hc => ?_⟩
        rw [List.mem_append, List.mem_singleton] at hc
        rcases hc with hc | rfl
        · exact hx c hc
        · omega
termination_by l.length
/-- who is no king is beaten by someone with a greater score -/
theorem step_up {s : Int} {xs : List Int} (hp : tourP s xs) {a : Nat} (ha : a < xs.length) (hk : kingN xs a = false) : popN 8 (winsN xs a) < popN 8 (winsN xs (kstepN xs a)) := by
  have h8 : xs.length ≤ 8 := by have := hp.1; have := hp.2.1; omega
  have hex : ∃ c, c < xs.length ∧ (nearN xs a).testBit c = false := by
    refine Classical.byContradiction fun hc => ?_
    have hall : ∀ c, c < xs.length → (nearN xs a).testBit c = true := fun c h => by
      rcases q : (nearN xs a).testBit c with _ | _
      · exact absurd ⟨c, h, q⟩ hc
      · rfl
    have hlt : nearN xs a < 2 ^ xs.length := by
      have hw : ∀ b, b < xs.length → winsN xs b < 2 ^ xs.length := fun b hb => by
        have := (tour_wins hp hb).2.1
        rwa [show s.toNat = xs.length by have := hp.2.1; omega] at this
      exact orK_ltn hw (wins_mem hp ha) (Nat.or_lt_two_pow (hw a ha) (Nat.pow_lt_pow_right (by decide) ha))
    have : nearN xs a = 2 ^ xs.length - 1 := Nat.eq_of_testBit_eq fun j => by
      rw [testBit_full]
      by_cases hj : j < xs.length
      · simp [hall j hj, hj]
      · simp only [hj, decide_false]
        exact Nat.testBit_lt_two_pow (Nat.lt_of_lt_of_le hlt (Nat.pow_le_pow_right (by decide) (by omega)))
    simp [kingN, this] at hk
  obtain ⟨c, hc, hn⟩ := hex
  unfold nearN at hn
  rw [testBit_orK, Nat.testBit_or, Nat.testBit_two_pow] at hn
  simp only [Bool.or_eq_false_iff, decide_eq_false_iff_not, List.any_eq_false] at hn
  obtain ⟨⟨h1, h2⟩, h3⟩ := hn
  have hca : (winsN xs c).testBit a = true := by
    have := beat_one hp hc ha (fun e => h2 e.symm)
    rw [this, h1]; rfl
  have hsub : ∀ j, (winsN xs a).testBit j = true → (less (winsN xs c) (2 ^ a)).testBit j = true := fun j hj => by
    have hjn : j < xs.length := by
      rcases Nat.lt_or_ge j xs.length with h | h
      · exact h
      · rw [wins_hi hp ha h] at hj; simp at hj
    have hja : a ≠ j := fun e => by subst e; rw [beat_self hp ha] at hj; simp at hj
    have hjc : c ≠ j := fun e => by subst e; rw [h1] at hj; simp at hj
    have h4 : (winsN xs j).testBit c = false := by
      have := h3 j (mem_memN.2 ⟨by omega, hj⟩)
      simpa using this
    have h5 := beat_one hp hc hjn hjc
    rw [testBit_less, Nat.testBit_two_pow, h5, h4]
    simp [hja]
  have hm : a ∈ memN (winsN xs c) 8 := mem_memN.2 ⟨by omega, hca⟩
  have hcard := card_less hm
  have hle := card_mono (n := 8) hsub
  rw [← pop_mem (tour_wins hp hc).2.2] at hcard
  rw [← pop_mem (tour_wins hp ha).2.2] at hle
  have hmem : c ∈ loseN xs a xs.length := mem_loseN.2 ⟨hc, by rw [bit_nat hp hc]; exact hca⟩
  have hself : a ∉ loseN xs a xs.length := fun h => by
    have := (mem_loseN.1 h).2
    rw [bit_nat hp ha, beat_self hp ha] at this
    simp at this
  rcases kstK_best (xs := xs) hself with ⟨e, _⟩ | ⟨_, hx⟩
  · rw [e] at hmem; simp at hmem
  · have := hx c hmem
    unfold kstepN
    omega
theorem kstep_lt {xs : List Int} {a : Nat} (ha : a < xs.length) : kstepN xs a < xs.length := kstK_mem ha fun _b hb => (mem_loseN.1 hb).1
def climbF (xs : List Int) : Nat → Nat → Nat
  | 0, a => a
  | f + 1, a => if kingN xs a = true then a else climbF xs f (kstepN xs a)
theorem climb_same {s : Int} {xs : List Int} (hp : tourP s xs) (f : Nat) : ∀ (a : Nat), a < xs.length → 8 - popN 8 (winsN xs a) < f → ∀ g, 8 - popN 8 (winsN xs a) < g → climbF xs f a = climbF xs g a := by
  induction f with
  | zero => intro a _ h; omega
  | succ f ih =>
    intro a ha hf g hg
    obtain ⟨g, rfl⟩ : ∃ g', g = g' + 1 := ⟨g - 1, by omega⟩
    simp only [climbF]
    rcases q : kingN xs a with _ | _
    · have := step_up hp ha q
      have := popN_le 8 (winsN xs (kstepN xs a))
      simp only [Bool.false_eq_true, if_false]
      exact ih _ (kstep_lt ha) (by omega) g (by omega)
    · simp
theorem climb_step {s : Int} {xs : List Int} (hp : tourP s xs) {a : Nat} (ha : a < xs.length) (hk : kingN xs a = false) : climbF xs 9 (kstepN xs a) = climbF xs 9 a := by
  have e : climbF xs 9 a = climbF xs 8 (kstepN xs a) := by simp [climbF, hk]
  have := step_up hp ha hk
  have := popN_le 8 (winsN xs (kstepN xs a))
  rw [e]
  exact climb_same hp 9 _ (kstep_lt ha) (by omega) 8 (by omega)
theorem climb_stop {xs : List Int} {a : Nat} (hk : kingN xs a = true) : climbF xs 9 a = a := by simp [climbF, hk]
noncomputable def climbI (s : Int) (xs : List Int) (a : Int) : Int := if (tourB s xs && inB a 0 (s - 1)) = true then (climbF xs 9 a.toNat : Int) else -1
end Go.Proofs.YthoodjjjklbggaaGreatDoor

namespace Go.Proofs.YthoodjjjklbggaaGreatDoor
set_option maxRecDepth 100000
def scN (xs : List Int) (b : Nat) : Int := (popN 8 (winsN xs b) : Nat)
theorem scN_bd (xs : List Int) (b : Nat) : 0 ≤ scN xs b ∧ scN xs b ≤ 8 := by
  have := popN_le 8 (winsN xs b)
  unfold scN; omega
theorem memN_sum (S : Nat) (g : Nat → Int) (k : Nat) : ((memN S k).map g).sum = sumN (fun b => if S.testBit b = true then g b else 0) k := by
  induction k with
  | zero => rfl
  | succ k ih =>
    rw [memN_succ, List.map_append, List.sum_append, ih, sumN]
    split <;> simp_all
theorem loseN_sum (xs : List Int) (a : Nat) (g : Nat → Int) (k : Nat) : ((loseN xs a k).map g).sum = sumN (fun b => if bitI (xs.getD b 0) a = true then g b else 0) k := by
  induction k with
  | zero => rfl
  | succ k ih =>
    rw [loseN_succ, List.map_append, List.sum_append, ih, sumN]
    split <;> simp_all
section
variable {n : Nat} {xs : List Int}
theorem tour_len (hp : tourP n xs) : xs.length = n := by have := hp.2.1; omega
theorem mem8 (hp : tourP n xs) {a : Nat} (ha : a < n) : memN (winsN xs a) 8 = memN (winsN xs a) n := by
  have hl := tour_len hp
  have h := (tour_wins hp (hl ▸ ha)).2.1
  have h1 := hp.1
  rw [show ((n : Int)).toNat = n from rfl] at h
  exact memN_top (by omega) (Nat.div_eq_of_lt h)
theorem sc_sum (hp : tourP n xs) {a : Nat} (ha : a < n) : scN xs a = sumN (fun b => if bt xs a b = true then 1 else 0) n := by
  unfold scN
  rw [pop_mem (tour_wins hp (tour_len hp ▸ ha)).2.2, mem8 hp ha, ← memN_sum]
  generalize memN (winsN xs a) n = l
  induction l with
  | nil => rfl
  | cons c l ih => rw [List.map_cons, List.sum_cons, ← ih, List.length_cons]; omega
theorem tr_bit (hp : tourP n xs) {a b : Nat} (ha : a < n) (hb : b < n) : (a = b → bt xs a b = false) ∧ (a ≠ b → bt xs a b = !bt xs b a) := by
  have h := tour_bits hp
  rw [tour_len hp] at h
  exact ⟨fun e => by subst e; exact h.2.1 a ha, fun e => h.2.2 a b ha hb e⟩
/-- the number of those who beat b -/
theorem by_sum (hp : tourP n xs) {b : Nat} (hb : b < n) : sumN (fun a => if bt xs a b = true then 1 else 0) n = n - 1 - scN xs b := by
  rw [sc_sum hp hb]
  have e : sumN (fun a => (if bt xs a b = true then 1 else 0) + (if bt xs b a = true then 1 else 0)) n = sumN (fun a => 1 - if a = b then 1 else 0) n := sumN_congr fun a ha => by
    have h1 := tr_bit hp ha hb
    have h2 := tr_bit hp hb ha
    by_cases e : a = b
    · subst e; rw [if_neg (by rw [h1.1 rfl]; decide), if_pos rfl]; rfl
    · rw [if_neg e, h1.2 e]
      cases bt xs b a <;> rfl
  rw [sumN_add, sumN_sub, sumN_const, sumN_one hb (fun k _ hk => if_neg hk), if_pos rfl] at e
  omega
theorem sc_bd (hp : tourP n xs) {b : Nat} (hb : b < n) : 0 ≤ scN xs b ∧ scN xs b ≤ (n : Int) - 1 := by
  have h := by_sum hp hb
  have h1 : 0 ≤ sumN (fun a => if bt xs a b = true then (1 : Int) else 0) n := sumN_nonneg fun k _ => by split <;> omega
  have := scN_bd xs b
  omega
end
end Go.Proofs.YthoodjjjklbggaaGreatDoor

namespace Go.Proofs.YthoodjjjklbggaaGreatDoor
open Go.RowKit Go.Sort
set_option maxRecDepth 100000
theorem same_true (xs ys : List Int) (h : xs.length = ys.length) (HP : ∀ j, j < xs.length → xs.getD j 0 = ys.getD j 0) : decide (xs = ys) = true := by
  rw [decide_eq_true]
  apply List.ext_getElem h
  intro i h1 h2
  have := HP i h1
  simpa [h1, h2] using this
set_option maxHeartbeats 400000 in
theorem lsame_any (v1 v2 : Value) (xs ys : List Int) (w : World) (h1 : Rd w v1 xs) (h2 : Rd w v2 ys) :
    Calls Tryz.prog 10 #[v1, v2] w fun e w' => e = .returned (.bool (decide (xs = ys))) ∧ w = w' := by
  obtain ⟨A, c, rfl, hl1, hm1, hc1⟩ := h1
  obtain ⟨B, d, rfl, hl2, hm2, hc2⟩ := h2
  unfold maxLen at hm1 hm2
  generalize hn : xs.length = n at *
  generalize hm : ys.length = m at *
  have H1 := Lib.hid hn
  have H2 := Lib.hid hm
  have H3 := Lib.hid hc1
  have H4 := Lib.hid hc2
  clear hn hm hc1 hc2
  by_cases hnm : n = m
  · subst hnm
    have hne : ((n : Int) != (n : Int)) = false := by simp
    go_enter Tryz.func10, Tryz.ntmps10
    go_wp2
    go_loop [14] (fun i => ∃ k : Nat, k ≤ n ∧ i = .int .i64 k ∧ Hid (∀ j, j < k → xs.getD j 0 = ys.getD j 0)) (fun i => n - (intOf i).toNat)
    case atStart => exact ⟨0, by omega, rfl, fun j hj => absurd hj (by omega)⟩
    case round =>
      obtain ⟨k, hk, rfl, HP⟩ := hrel
      by_cases hlt : k < n
      · obtain ⟨b, off, rfl, hb, hx⟩ := H3.out (by omega)
        obtain ⟨b', off', rfl, hb', hy⟩ := H4.out (by omega)
        have hxk := hx k hlt
        have hyk := hy k hlt
        clear hx hy
        generalize hX : xs.getD k 0 = X at *
        generalize hY : ys.getD k 0 = Y at *
        have HXE := Lib.hid hX
        have HYE := Lib.hid hY
        clear hX hY
        by_cases hXY : X = Y
        · have hne2 : (X != Y) = false := by simp [hXY]
          have HP2 : Hid (∀ j, j < k + 1 → xs.getD j 0 = ys.getD j 0) := Lib.hid fun j hj => by
            by_cases hjk : j < k
            · exact HP.out j hjk
            · obtain rfl : j = k := by omega
              rw [HXE.out, HYE.out, hXY]
          clear hXY
          go_wp2
          go_round
          case rel => exact ⟨k + 1, by omega, by go_num, HP2⟩
          case measure => simp [intOf]; omega
        · have hne2 : (X != Y) = true := by simp [hXY]
          go_wp2
          go_ret
          refine ⟨ret_bool ?_, rfl⟩
          refine (decide_eq_false ?_).symm
          rintro rfl
          exact hXY (HXE.out.symm.trans HYE.out)
      · have hge : ¬ ((k : Int) < (n : Int)) := by omega
        go_wp2
        go_ret
        exact ⟨ret_bool (same_true xs ys (by rw [H1.out, H2.out]) fun j hj => HP.out j (by have := H1.out; omega)).symm, rfl⟩
  · have hne : ((n : Int) != (m : Int)) = true := by simp; omega
    go_enter Tryz.func10, Tryz.ntmps10
    go_wp2
    go_ret
    refine ⟨ret_bool (decide_eq_false ?_).symm, rfl⟩
    rintro rfl
    exact hnm (H1.out.symm.trans H2.out)
theorem same_yes (v1 v2 : Value) (xs : List Int) (w : World) (h1 : Rd w v1 xs) (h2 : Rd w v2 xs) :
    Calls Tryz.prog 10 #[v1, v2] w fun e w' => e = .returned (.bool true) ∧ w = w' := by
  have := lsame_any v1 v2 xs xs w h1 h2
  rwa [decide_eq_true (rfl : xs = xs)] at this
end Go.Proofs.YthoodjjjklbggaaGreatDoor

namespace Go.Proofs.YthoodjjjklbggaaGreatDoor
open Go.RowKit Go.Sort
set_option maxRecDepth 100000
section
variable {n : Nat} {xs : List Int} {sl : Value} {w : World}
theorem rd_at {A : Option Addr} {c n : Nat} {L : List Int} (h : Rd w (.slice A n c) L) (hl : L.length = n) (h1 : 0 < n) : ∃ g off, A = some ⟨g, off, none⟩ := by
  obtain ⟨A', c', e, -, -, hx⟩ := h
  injection e with e1 _ _
  subst e1
  obtain ⟨g, off, rfl, -, -⟩ := hx (by omega)
  exact ⟨g, off, rfl⟩
theorem rd_cell {g off c n : Nat} {L : List Int} (h : Rd w (.slice (some ⟨g, off, none⟩) n c) L) (hl : L.length = n) {i : Nat} (hi : i < n) : w.cell? ⟨g, off + i, none⟩ = some (.int .i64 (L.getD i 0)) := by
  obtain ⟨A', c', e, -, -, hx⟩ := h
  injection e with e1 _ _
  subst e1
  obtain ⟨g', off', e', -, hc⟩ := hx (by omega)
  injection e' with e'
  injection e' with e1 e2 _
  subst e1 e2
  exact hc i (by omega)
theorem rd_len {A : Option Addr} {c n : Nat} {L : List Int} (h : Rd w (.slice A n c) L) : L.length = n ∧ n ≤ c ∧ c ≤ maxLen := by
  obtain ⟨A', c', e, h1, h2, -⟩ := h
  injection e with _ e2 e3
  subst e3
  omega
theorem rd_rows {A : Option Addr} {c m : Nat} {rows : List (List Int)} (h : RdRows w (.slice A m c) rows) {j : Nat} (hj : j < m) : ∃ g u, A = some ⟨g, 0, none⟩ ∧ w.cell? ⟨g, j, none⟩ = some u ∧ Rd w u (rows.getD j []) := by
  obtain ⟨A', c', e, h1, h2, hx⟩ := h
  injection e with e1 e2 e3
  subst e1
  obtain ⟨g, rfl, -, hc⟩ := hx (by omega)
  obtain ⟨u, h3, h4⟩ := hc j (by omega)
  exact ⟨g, u, rfl, h3, h4⟩
theorem rd_cap {A : Option Addr} {c n : Nat} {L : List Int} (h : Rd w (.slice A n c) L) : c ≤ maxLen := by
  obtain ⟨A', c', e, -, hm, -⟩ := h
  injection e with _ _ e3
  subst e3
  exact hm
theorem in_tour {n : Nat} {c : Nat} (hc : c < n) : inB (c : Int) 0 ((n : Int) - 1) = true := inB_true.2 ⟨by omega, by omega⟩
theorem beat_bt (hp : tourP n xs) {a b : Nat} (ha : a < n) (hb : b < n) : beatB n xs a b = bt xs a b := by
  unfold beatB
  rw [tourB_true.2 hp, in_tour ha, in_tour hb, Int.toNat_natCast, Int.toNat_natCast, bitI_bt (tour_wins hp (tour_len hp ▸ ha)).1]
  rfl
end
end Go.Proofs.YthoodjjjklbggaaGreatDoor

namespace Go.Proofs.YthoodjjjklbggaaGreatDoor
open Go.RowKit Go.Sort
set_option maxRecDepth 100000

theorem wp_appendN {ops : Array Oper} {rest : List Oper} {o : Oper} {a : Act} {Q : Exit → Act → World → Prop} (w : World) (hgd : o.guard = none) (s x : Operand)
    (ho : o.op = .call { callee := .builtin .append, args := #[s, x], argTypes := #[23, 23] })
    (base : Nat) (v : Value) (xs : List Int) (hs : a.eval s = v) (hown : Own w base v xs) (ad : Addr) (c : Nat) (ys : List Int) (hx : a.eval x = .slice (some ad) ys.length c)
    (hc : ∀ k, k < ys.length → w.cell? (ad.add k) = some (.int .i64 (ys.getD k 0)))
    (hlen : xs.length + ys.length ≤ 1099511627776) (hbase : base ≤ w.heap.size)
    (h : ∀ v' w', Own w' base v' (xs ++ ys) → w.grownBy w' v.ownBlock → wpList Tryz.prog ops Q rest (a.put o.dst v') w') :
    wpList Tryz.prog ops Q (o :: rest) a w := by
  obtain ⟨i0, hi, hz0, hz1, hz2⟩ := info_parts i64_info
  have hown' : w.ownsRow base 3 1 v xs.length (xs.map (Value.int .i64)) := hown
  refine wpList_append_own _ hgd s x 23 ho base 3 i0 (.int .i64 0) 1 8 Tryz.underlying23 hi hz0 hz1 hz2 rfl (by decide) v xs.length (xs.map (Value.int .i64)) hs hown' ad ys.length c (ys.map (Value.int .i64)) hx (by simp) ?_ ?_ ?_ ?_ ?_ ?_
  · intro j u hj
    have hjl : j < ys.length := by simpa using (List.getElem?_eq_some_iff.1 hj).1
    rw [hc j hjl]
    simp [hjl] at hj
    simp [hjl, hj]
  · intro u hu; simp at hu; obtain ⟨y, -, rfl⟩ := hu; rfl
  · unfold maxLen; omega
  · omega
  · exact hbase
  · intro v' w' h1 h2 _
    refine h v' w' ?_ h2
    unfold Own
    rw [List.length_append, List.map_append]
    exact h1
set_option maxHeartbeats 400000 in
theorem clone_any (v : Value) (xs : List Int) (w : World) (h : Rd w v xs) (h0 : 0 < xs.length) (hl : xs.length ≤ 1048576) :
    Calls Tryz.prog 43 #[v] w fun e w' => ∃ v', e = .returned v' ∧ Own w' w.heap.size v' xs ∧ Below w.heap.size w w' := by
  obtain ⟨A, c, rfl, hlc, hm, hc⟩ := h
  obtain ⟨g, off, rfl, hg, hx⟩ := hc h0
  have hx' : ∀ k, k < xs.length → (w.alloc (.cells #[] 3)).cell? ((⟨g, off, none⟩ : Addr).add k) = some (.int .i64 (xs.getD k 0)) := fun k hk => by
    rw [Addr.add_lit, World.cell?_alloc_lt _ _ _ (by exact hg)]
    exact hx k hk
  have HX := Lib.hid hx'
  have ho := Own.lit w w.heap.size [] (Nat.le_refl _) (by simp)
  have HO := Lib.hid ho
  clear hx hx' hc ho
  generalize hn : xs.length = n at *
  have HN := Lib.hid hn
  have e0 : ∀ w : World, (binOp .eql 23 (.slice (some ⟨g, off, none⟩) n c) (.slice none 0 0)).run Tryz.prog w = .ok (.bool false) w := fun _ => by kernel_rfl
  go_enter Tryz.func43, Tryz.ntmps43
  go_wp2_with (at_builtin; refine wp_appendN (w.alloc (.cells #[] 3)) rfl (.tmp 5) (.tmp 6) rfl w.heap.size _ [] rfl HO.out ⟨g, off, none⟩ c xs (by rw [hn]; simp [Act.eval]) (by rw [hn]; exact HX.out) (by simp; omega) (by simp) ?_; intro v' w' ho hgr; have HO2 := Lib.hid ho; have HG2 := Lib.hid hgr; clear ho hgr)
  go_ret
  exact ⟨_, rfl, by simpa using HO2.out, Below.grown (below_alloc1 w _) HG2.out (by simp) (fun k hk => (HO.out.lt k hk).1)⟩
end Go.Proofs.YthoodjjjklbggaaGreatDoor

