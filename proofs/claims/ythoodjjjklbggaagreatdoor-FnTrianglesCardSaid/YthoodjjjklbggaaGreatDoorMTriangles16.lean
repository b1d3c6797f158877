/- Texts put together: TrF, OfBits, Of. -/
import Derived.Test.YthoodjjjklbggaaGreatDoorMTriangles14
import Derived.Test.YthoodjjjklbggaaGreatDoorMTriangles04
import Derived.Deep.RegionLaw
namespace Go.Proofs.YthoodjjjklbggaaGreatDoor
open Go.RowKit Go.Sort
set_option maxRecDepth 100000
def cardN (S n : Nat) : Nat := (memN S n).length
theorem cardN_succ (S n : Nat) : cardN S (n + 1) = cardN S n + if S.testBit n = true then 1 else 0 := by
  unfold cardN
  rw [memN_succ, List.length_append]
  split <;> simp
theorem card_split {S T : Nat} (h : ∀ c, T.testBit c = true → S.testBit c = true) (n : Nat) : cardN (less S T) n + cardN T n = cardN S n := by
  induction n with
  | zero => simp [cardN, memN]
  | succ n ih =>
    rw [cardN_succ, cardN_succ, cardN_succ, testBit_less]
    have := h n
    cases h1 : S.testBit n <;> cases h2 : T.testBit n <;> simp_all <;> omega
theorem card_pos {S n c : Nat} (hc : c < n) (h : S.testBit c = true) : 1 ≤ cardN S n := List.length_pos_of_mem (mem_memN.2 ⟨hc, h⟩)
theorem card_two {S n c d : Nat} (hc : c < n) (hd : d < n) (h1 : S.testBit c = true) (h2 : S.testBit d = true) (h : c ≠ d) : 2 ≤ cardN S n := by
  have h3 : d ∈ (memN S n).erase c := (List.mem_erase_of_ne (Ne.symm h)).2 (mem_memN.2 ⟨hd, h2⟩)
  have e := List.length_erase_of_mem (mem_memN.2 ⟨hc, h1⟩ : c ∈ memN S n)
  have := List.length_pos_of_mem h3
  unfold cardN; omega
theorem card_uniq {S n : Nat} (h : ∀ c d, c < n → d < n → S.testBit c = true → S.testBit d = true → c = d) : cardN S n ≤ 1 := by
  unfold cardN
  rcases q : memN S n with _ | ⟨a, _ | ⟨b, l⟩⟩
  · simp
  · simp
  · exfalso
    have ha := mem_memN.1 (show a ∈ memN S n by rw [q]; simp)
    have hb := mem_memN.1 (show b ∈ memN S n by rw [q]; simp)
    have := h a b ha.1 hb.1 ha.2 hb.2
    subst this
    have hn := memN_nodup S n
    rw [q] at hn
    simp at hn
theorem card_full (n : Nat) : cardN (2 ^ n - 1) n = n := by
  unfold cardN memN
  rw [List.filter_eq_self.2 fun a ha => by rw [testBit_full]; simpa using ha]
  simp
section
variable {n : Nat} {xs : List Int}
theorem top_ex (hp : tourP n xs) {S : Nat} (hS : S < 2 ^ n) (hc : clo xs S) (h0 : S ≠ 0) : ∃ b, b < n ∧ (topF xs n S).testBit b = true := by
  have hl := tour_len hp
  obtain ⟨a, ha⟩ := Nat.exists_testBit_of_ne_zero h0
  obtain ⟨b, hb, e⟩ := top_some hp (by rw [hl]; exact hS) hc _ a ha (Nat.le_refl _)
  have hbn := bit_lt hS hb
  exact ⟨b, hbn, by rw [testBit_topF]; simp [hbn, hb, e]⟩
theorem rest_n (hp : tourP n xs) {S : Nat} (hS : S < 2 ^ n) (hc : clo xs S) (h0 : S ≠ 0) : less S (topF xs n S) < S ∧ clo xs (less S (topF xs n S)) := by
  have hl := tour_len hp
  have h1 := rest_lt hp (by rw [hl]; exact hS) hc h0
  have h2 := rest_clo hp (by rw [hl]; exact hS) hc
  rw [hl] at h1 h2
  exact ⟨h1, h2⟩
theorem parts_step (hp : tourP n xs) {S : Nat} (hS : S < 2 ^ n) (hc : clo xs S) (h0 : S ≠ 0) : partsN xs S = topF xs n S :: partsN xs (less S (topF xs n S)) := by
  have := partsN_step hp (by rw [tour_len hp]; exact hS) hc h0
  rwa [tour_len hp] at this
theorem parts_card (hp : tourP n xs) : ∀ B S, S < B → S < 2 ^ n → clo xs S → (partsN xs S).length ≤ cardN S n ∧ ((partsN xs S).length = cardN S n → ∀ P ∈ partsN xs S, cardN P n = 1) := by
  intro B
  induction B with
  | zero => intro S h; omega
  | succ B ih =>
    intro S hB hS hc
    by_cases h0 : S = 0
    · subst h0; rw [partsN_zero]; simp
    · obtain ⟨h1, h2⟩ := rest_n hp hS hc h0
      obtain ⟨h3, h4⟩ := ih (less S (topF xs n S)) (by omega) (by omega) h2
      have h5 := card_split (top_sub xs n S) n
      obtain ⟨b, hb, hbt⟩ := top_ex hp hS hc h0
      have h6 := card_pos hb hbt
      rw [parts_step hp hS hc h0, List.length_cons]
      refine ⟨by omega, fun e P hP => ?_⟩
      rcases List.mem_cons.1 hP with rfl | hP
      · omega
      · exact h4 (by omega) P hP
/-- who is in the set is in a part, with all who reach the same -/
theorem parts_mem (hp : tourP n xs) : ∀ B S, S < B → S < 2 ^ n → clo xs S → ∀ c, S.testBit c = true → ∃ P ∈ partsN xs S, P.testBit c = true ∧ ∀ d, d < n → reachN xs d = reachN xs c → P.testBit d = true := by
  intro B
  induction B with
  | zero => intro S h; omega
  | succ B ih =>
    intro S hB hS hc c hcS
    have h0 : S ≠ 0 := fun e => by subst e; simp at hcS
    obtain ⟨h1, h2⟩ := rest_n hp hS hc h0
    rw [parts_step hp hS hc h0]
    by_cases ht : (topF xs n S).testBit c = true
    · refine ⟨_, by simp, ht, fun d hd e => ?_⟩
      rw [testBit_topF] at ht ⊢
      simp only [Bool.and_eq_true, decide_eq_true_eq, beq_iff_eq] at ht ⊢
      have hdd := (reach_facts hp (by rw [tour_len hp]; exact hd) (a := d)).1
      rw [e, ht.2.2] at hdd
      exact ⟨hd, hdd, by rw [e]; exact ht.2.2⟩
    · have hr : (less S (topF xs n S)).testBit c = true := by
        rw [testBit_less, hcS]
        simp only [Bool.not_eq_true] at ht
        rw [ht]; rfl
      obtain ⟨P, hP, h3⟩ := ih (less S (topF xs n S)) (by omega) (by omega) h2 c hr
      exact ⟨P, List.mem_cons_of_mem _ hP, h3⟩
def transP (xs : List Int) (n : Nat) : Prop := ∀ a b c, a < n → b < n → c < n → bt xs a b = true → bt xs b c = true → bt xs a c = true
theorem trans_reach (hp : tourP n xs) (ht : transP xs n) {a c : Nat} (ha : a < n) (h : (reachN xs a).testBit c = true) : c = a ∨ bt xs a c = true := by
  have hl := tour_len hp
  have hT : clo xs (winsN xs a ||| 2 ^ a) := fun b d hb hd => by
    rw [Nat.testBit_or, Nat.testBit_two_pow] at hb ⊢
    simp only [Bool.or_eq_true, decide_eq_true_eq] at hb ⊢
    have hbn : b < n := by
      rcases hb with h | h
      · exact bt_hi hp ha h
      · omega
    have hdn : d < n := bt_hi hp hbn hd
    rcases hb with h | rfl
    · exact .inl (ht a b d ha hbn hdn h hd)
    · exact .inl hd
  have := (reach_facts hp (by rw [hl]; exact ha) (a := a)).2.2.1 _ hT (by rw [Nat.testBit_or, Nat.testBit_two_pow]; simp) c h
  rw [Nat.testBit_or, Nat.testBit_two_pow] at this
  simp only [Bool.or_eq_true, decide_eq_true_eq] at this
  rcases this with h | h
  · exact .inr h
  · exact .inl h.symm
theorem trans_top (hp : tourP n xs) (ht : transP xs n) {S : Nat} (hS : S < 2 ^ n) (hc : clo xs S) (h0 : S ≠ 0) : cardN (topF xs n S) n = 1 := by
  obtain ⟨b, hb, hbt⟩ := top_ex hp hS hc h0
  have h1 := card_pos hb hbt
  have h2 : cardN (topF xs n S) n ≤ 1 := card_uniq fun c d hc' hd' h3 h4 => by
    rw [testBit_topF] at h3 h4
    simp only [Bool.and_eq_true, decide_eq_true_eq, beq_iff_eq] at h3 h4
    rcases trans_reach hp ht hc' (c := d) (by rw [h3.2.2]; exact h4.2.1) with e | e
    · exact e.symm
    · rcases trans_reach hp ht hd' (c := c) (by rw [h4.2.2]; exact h3.2.1) with e' | e'
      · exact e'
      · rw [(bt_asym hp hc' hd' e).1] at e'; cases e'
  omega
theorem trans_parts (hp : tourP n xs) (ht : transP xs n) : ∀ B S, S < B → S < 2 ^ n → clo xs S → (partsN xs S).length = cardN S n := by
  intro B
  induction B with
  | zero => intro S h; omega
  | succ B ih =>
    intro S hB hS hc
    by_cases h0 : S = 0
    · subst h0; rw [partsN_zero]; unfold cardN memN; rw [List.filter_eq_nil_iff.2 (by simp)]
    · obtain ⟨h1, h2⟩ := rest_n hp hS hc h0
      have h3 := ih (less S (topF xs n S)) (by omega) (by omega) h2
      have h5 := card_split (top_sub xs n S) n
      have h6 := trans_top hp ht hS hc h0
      rw [parts_step hp hS hc h0, List.length_cons]
      omega
theorem clo_all (hp : tourP n xs) : clo xs (2 ^ n - 1) := fun b c h hc => by
  rw [testBit_full, decide_eq_true_eq] at h ⊢
  exact bt_hi hp h hc
theorem reach_eq (hp : tourP n xs) {a b : Nat} (ha : a < n) (hb : b < n) (h1 : (reachN xs a).testBit b = true) (h2 : (reachN xs b).testBit a = true) : reachN xs a = reachN xs b := by
  have fa := reach_facts hp (by rw [tour_len hp]; exact ha) (a := a)
  have fb := reach_facts hp (by rw [tour_len hp]; exact hb) (a := b)
  exact sub_eq (fa.2.2.1 _ fb.2.1 h2) (fb.2.2.1 _ fa.2.1 h1)
theorem reach_step (hp : tourP n xs) {a b c : Nat} (ha : a < n) (h : (reachN xs a).testBit b = true) (hbc : bt xs b c = true) : (reachN xs a).testBit c = true :=
  (reach_facts hp (by rw [tour_len hp]; exact ha) (a := a)).2.1 b c h hbc
/-- as many parts as players: the tour is transitive -/
theorem trans_iff (hp : tourP n xs) : (partsN xs (2 ^ n - 1)).length = n ↔ transP xs n := by
  have hlt : 2 ^ n - 1 < 2 ^ n := by have := Nat.one_le_two_pow (n := n); omega
  constructor
  · intro e a b c ha hb hc hab hbc
    have hac : a ≠ c := fun e2 => by subst e2; rw [(bt_asym hp ha hb hab).1] at hbc; cases hbc
    rcases q : bt xs a c with _ | _
    · exfalso
      have hca := (bt_flip hp hc ha (Ne.symm hac)).2 q
      have raa := (reach_facts hp (by rw [tour_len hp]; exact ha) (a := a)).1
      have rbb := (reach_facts hp (by rw [tour_len hp]; exact hb) (a := b)).1
      have r1 := reach_step hp ha raa hab
      have r2 := reach_step hp hb (reach_step hp hb rbb hbc) hca
      have re := reach_eq hp ha hb r1 r2
      obtain ⟨P, hP, h1, h2⟩ := parts_mem hp _ _ (Nat.lt_succ_self _) hlt (clo_all hp) a (by rw [testBit_full]; simp [ha])
      have h3 := h2 b hb re.symm
      have h4 := (parts_card hp _ _ (Nat.lt_succ_self _) hlt (clo_all hp)).2 (by rw [e, card_full]) P hP
      have h5 := card_two ha hb h1 h3 (bt_asym hp ha hb hab).2
      omega
    · rfl
  · intro ht
    rw [trans_parts hp ht _ _ (Nat.lt_succ_self _) hlt (clo_all hp), card_full]
end
end Go.Proofs.YthoodjjjklbggaaGreatDoor

namespace Go.Proofs.YthoodjjjklbggaaGreatDoor
open Go.RowKit Go.Sort
set_option maxRecDepth 100000
/-- the pairs that are done at (a, b) -/
def donePair (a b x y : Nat) : Prop := (x < a ∨ y < a) ∨ (x = a ∧ y < b) ∨ (y = a ∧ x < b)
/-- the rows of a tour that is half made -/
def HalfT (n a b : Nat) (N : List Int) : Prop := N.length = n ∧ ∃ f : Nat → Nat → Bool,
  (∀ x y, f x y = true → x < n ∧ y < n ∧ x ≠ y ∧ donePair a b x y) ∧ (∀ x y, x < n → y < n → x ≠ y → donePair a b x y → f x y = !f y x) ∧ ∀ x, x < n → N.getD x 0 = ((setOf (f x) n : Nat) : Int)
theorem setOf_more {p q : Nat → Bool} {y : Nat} (h0 : p y = false) (h1 : q y = true) (h2 : ∀ z, z ≠ y → q z = p z) : ∀ {n : Nat}, y < n → setOf q n = setOf p n + 2 ^ y := by
  intro n
  induction n with
  | zero => intro h; omega
  | succ n ih =>
    intro h
    simp only [setOf]
    by_cases e : y = n
    · subst e
      rw [h0, h1, setOf_congr (q := p) (fun j hj => h2 j (by omega))]; simp
    · rw [ih (by omega), h2 n (Ne.symm e)]; omega
theorem HalfT.start (n : Nat) : HalfT n 0 1 (List.replicate n 0) := by
  refine ⟨by simp, fun _ _ => false, fun x y h => by simp at h, fun x y hx hy hxy h => ?_, fun x hx => ?_⟩
  · unfold donePair at h; omega
  · rw [setOf_congr (q := fun _ => false) (fun _ _ => rfl)]
    have : setOf (fun _ => false) n = 0 := by
      clear hx
      induction n with
      | zero => rfl
      | succ n ih => simp [setOf, ih]
    rw [this]; simp [hx]
theorem HalfT.row {n a : Nat} {N : List Int} (h : HalfT n a n N) : HalfT n (a + 1) (a + 2) N := by
  obtain ⟨hl, f, h1, h2, h3⟩ := h
  have e : ∀ x y, x < n → y < n → x ≠ y → (donePair a n x y ↔ donePair (a + 1) (a + 2) x y) := fun x y hx hy hxy => by unfold donePair; omega
  exact ⟨hl, f, fun x y h => ⟨(h1 x y h).1, (h1 x y h).2.1, (h1 x y h).2.2.1, (e x y (h1 x y h).1 (h1 x y h).2.1 (h1 x y h).2.2.1).1 (h1 x y h).2.2.2⟩, fun x y hx hy hxy h => h2 x y hx hy hxy ((e x y hx hy hxy).2 h), h3⟩
/-- one game: u beats v, where {u, v} = {a, b} -/
theorem HalfT.game {n a b u v : Nat} {N : List Int} (h : HalfT n a b N) (hab : a < b) (hb : b < n) (huv : (u = a ∧ v = b) ∨ (u = b ∧ v = a)) {X : Nat} (hX : N.getD u 0 = (X : Int)) : HalfT n a (b + 1) (N.set u ((X + 2 ^ v : Nat) : Int)) := by
  obtain ⟨hl, f, h1, h2, h3⟩ := h
  have n1 : f u v = false := by
    rcases e : f u v with _ | _
    · rfl
    · have := (h1 u v e).2.2.2; unfold donePair at this; omega
  have n2 : f v u = false := by
    rcases e : f v u with _ | _
    · rfl
    · have := (h1 v u e).2.2.2; unfold donePair at this; omega
  refine ⟨by simp [hl], fun x y => f x y || (x == u && y == v), fun x y h => ?_, fun x y hx hy hxy hd => ?_, fun x hx => ?_⟩
  · rw [Bool.or_eq_true, Bool.and_eq_true, beq_iff_eq, beq_iff_eq] at h
    rcases h with h | ⟨rfl, rfl⟩
    · obtain ⟨p1, p2, p3, p4⟩ := h1 x y h
      exact ⟨p1, p2, p3, by unfold donePair at p4 ⊢; omega⟩
    · exact ⟨by omega, by omega, by omega, by unfold donePair; omega⟩
  · by_cases e1 : x = u ∧ y = v
    · obtain ⟨rfl, rfl⟩ := e1
      have : (y == x) = false := by simp; omega
      simp [n1, n2, this]
    · by_cases e2 : x = v ∧ y = u
      · obtain ⟨rfl, rfl⟩ := e2
        have : (x == y) = false := by simp; omega
        simp [n1, n2, this]
      · have hd' : donePair a b x y := by unfold donePair at hd ⊢; omega
        have q1 : (x == u && y == v) = false := by
          rcases q : (x == u && y == v) with _ | _
          · rfl
          · simp at q; exact absurd q e1
        have q2 : (y == u && x == v) = false := by
          rcases q : (y == u && x == v) with _ | _
          · rfl
          · simp at q; exact absurd ⟨q.2, q.1⟩ e2
        simp only [q1, q2, Bool.or_false]
        exact h2 x y hx hy hxy hd'
  · by_cases e : x = u
    · subst e
      rw [show (N.set x ((X + 2 ^ v : Nat) : Int)).getD x 0 = ((X + 2 ^ v : Nat) : Int) by simp [List.getD_eq_getElem?_getD, show x < N.length by omega]]
      have e3 : setOf (f x) n = X := by have := h3 x hx; omega
      rw [setOf_more (p := f x) (y := v) n1 (by simp) (fun z hz => by simp [hz]) (by omega), e3]
    · rw [show (N.set u ((X + 2 ^ v : Nat) : Int)).getD x 0 = N.getD x 0 by simp [List.getD_eq_getElem?_getD, List.getElem?_set_ne (Ne.symm e)], h3 x hx]
      have : setOf (fun y => f x y || (x == u && y == v)) n = setOf (f x) n := setOf_congr fun j _ => by simp [e]
      rw [this]
theorem HalfT.lt {n a b : Nat} {N : List Int} (h : HalfT n a b N) {x : Nat} (hx : x < n) : ∃ X : Nat, N.getD x 0 = (X : Int) ∧ X < 2 ^ n := by
  obtain ⟨hl, f, h1, h2, h3⟩ := h
  exact ⟨_, h3 x hx, setOf_lt _ _⟩
theorem HalfT.tour {n b : Nat} {N : List Int} (h : HalfT n n b N) (h1 : 1 ≤ n) (h8 : n ≤ 8) : tourP n N := by
  obtain ⟨hl, f, q1, q2, q3⟩ := h
  have hb : ∀ x y, x < n → bt N x y = (decide (y < n) && f x y) := fun x y hx => by
    unfold bt winsN
    rw [q3 x hx, Int.toNat_natCast, testBit_setOf]
  refine tour_of_bits (by omega) (by omega) (fun i hi => ⟨_, q3 i (by omega), by rw [hl]; exact setOf_lt _ _⟩) (fun a ha => ?_) (fun a c ha hc hac => ?_)
  · rw [hb a a (by omega)]
    rcases e : f a a with _ | _
    · simp
    · exact absurd rfl (q1 a a e).2.2.1
  · rw [hb a c (by omega), hb c a (by omega), q2 a c (by omega) (by omega) hac (by unfold donePair; omega)]
    simp [show a < n by omega, show c < n by omega]
end Go.Proofs.YthoodjjjklbggaaGreatDoor

namespace Go.Proofs.YthoodjjjklbggaaGreatDoor
open Go.RowKit Go.Sort
set_option maxRecDepth 100000
theorem add_shlw (X b : Nat) (hb : b ≤ 61) (h : X + 2 ^ b ≤ 1000) : IntKind.i64.wrap ((X : Int) + IntKind.i64.wrap (2 ^ b)) = ((X + 2 ^ b : Nat) : Int) := by
  rw [IntWalk.i64_left, IntWalk.i64_left, shl_nat b hb, ← Int.natCast_add]
  exact wrap64_nat _ (by omega)
set_option maxHeartbeats 8000000 in
theorem l02Of_any (n : Nat) (h1 : 1 ≤ n) (h8 : n ≤ 8) (bs : Int) (w : World) :
    Calls Tryz.prog 53 #[.int .i64 n, .int .i64 bs] w fun e w' => ∃ sl xs, e = .returned (.agg #[.int .i64 n, sl]) ∧ tourP n xs ∧ Own w' w.heap.size sl xs ∧ Below w.heap.size w w' := by
  obtain ⟨i0, hi, hz0, hz1, hz2⟩ := info_parts i64_info
  have HT0 := Lib.hid (BoxF.new w 0 (.slice none 0 0) 25)
  have HB0 := Lib.hid (below_alloc1 w (.cells #[.int .i64 0, .slice none 0 0] 25))
  go_enter Tryz.func53, Tryz.ntmps53
  go_wp2_with (at_make; refine wpList_make_full _ rfl _ _ 23 rfl (w.heap.size + 1) 3 i0 (.int .i64 0) 1 Tryz.underlying23 hi hz0 hz1 _ _ _ _ n rfl rfl rfl rfl (by rw [hz2]; omega) (by unfold maxLen; omega) (by simp) ?_; intro w1 hown hg1; have HB1 := Lib.hid (Below.grown HB0.out hg1 HB0.out.size (by simp)); have HT1 := Lib.hid (HT0.out.kept hg1 (by simp)); have HOWN := Lib.hid hown; have HS1 := Lib.hid (World.ownsRow.lt hown); clear hown hg1)
  have HO1 : Hid (Own w1 (w.heap.size + 1) (.slice (some ⟨w.heap.size + 1, 0, none⟩) n n) (List.replicate n 0)) := by
    have ho := HOWN.out
    rw [ints_made'] at ho
    unfold Hid Own
    rw [List.length_replicate]
    have e : (w.alloc (.cells #[.int .i64 0, .slice none 0 0] 25)).heap.size = w.heap.size + 1 := by simp
    rw [e] at ho
    exact ho
  have hgl1 : w.heap.size + 1 < w1.heap.size := (HO1.out.lt (w.heap.size + 1) rfl).2
  have HU1 := Lib.hid (BoxF.new w1 n (.slice (some ⟨w.heap.size + 1, 0, none⟩) n n) 25)
  have hb2 := below_alloc1 w1 (.cells #[.int .i64 n, .slice (some ⟨w.heap.size + 1, 0, none⟩) n n] 25)
  have HO2 := Lib.hid ((HO1.out.below hb2).mono (show w.heap.size ≤ w.heap.size + 1 by omega))
  have HT2 := Lib.hid (HT1.out.below hb2)
  have HB2 := Lib.hid (Below.then HB1.out hb2)
  clear HOWN HS1 HO1 HT1 HB1 hb2 HT0 HB0
  generalize w1.alloc (.cells #[.int .i64 n, .slice (some ⟨w.heap.size + 1, 0, none⟩) n n] 25) = w2 at *
  obtain ⟨gu, hgu⟩ : ∃ gu, gu = w1.heap.size := ⟨_, rfl⟩
  obtain ⟨gl, hgl⟩ : ∃ gl, gl = w.heap.size + 1 := ⟨_, rfl⟩
  rw [← hgu] at HU1 hgl1 ⊢
  rw [← hgl] at HU1 HO2 hgl1 ⊢
  have hwl : w.heap.size < gl := by omega
  clear hgu hgl
  go_loopw [1, 6] (fun x i wr => ∃ (a : Nat) (y : Int) (N : List Int), a ≤ n ∧ i = .int .i64 a ∧ x = .int .i64 y ∧ Hid (HalfT n a (a + 1) N) ∧ Hid (Own wr w.heap.size (.slice (some ⟨gl, 0, none⟩) n n) N) ∧ Hid (BoxF wr gu n (.slice (some ⟨gl, 0, none⟩) n n)) ∧ Hid (BoxF wr w.heap.size 0 (.slice none 0 0)) ∧ Hid (Below w.heap.size w wr)) (fun _ i _ => n - (intOf i).toNat)
  case atStart => exact ⟨0, bs, _, by omega, rfl, rfl, Lib.hid (HalfT.start n), HO2, HU1, HT2, HB2⟩
  case round =>
    obtain ⟨wo, rfl⟩ : ∃ x, x = wr := ⟨_, rfl⟩
    obtain ⟨a, y, N, ha, rfl, rfl, HH, HO, HU, HT, HB⟩ := hrel
    clear HO2 HU1 HT2 HB2
    by_cases hlt : a < n
    · go_wp2
      go_loopw [1, 7] (fun x j wr => ∃ (b : Nat) (z : Int) (M : List Int), a < b ∧ b ≤ n ∧ j = .int .i64 b ∧ x = .int .i64 z ∧ Hid (HalfT n a b M) ∧ Hid (Own wr w.heap.size (.slice (some ⟨gl, 0, none⟩) n n) M) ∧ Hid (BoxF wr gu n (.slice (some ⟨gl, 0, none⟩) n n)) ∧ Hid (BoxF wr w.heap.size 0 (.slice none 0 0)) ∧ Hid (Below w.heap.size w wr)) (fun _ j _ => n - (intOf j).toNat)
      case atStart => exact ⟨a + 1, y, N, by omega, by omega, by go_num, rfl, HH, HO, HU, HT, HB⟩
      case round =>
        obtain ⟨wk, rfl⟩ : ∃ x, x = wr := ⟨_, rfl⟩
        clear HH HO HU HT HB
        obtain ⟨b, z, M, hab, hb, rfl, rfl, HH, HO, HU, HT, HB⟩ := hrel
        by_cases hlt2 : b < n
        · have hand := i64_and_one z
          rcases Int.emod_two_eq z with hbit | hbit
          · rw [hbit] at hand
            obtain ⟨X, eX, hX⟩ := HH.out.lt (x := b) (by omega)
            have hb2 : a ≤ 7 := by omega
            have hp7 : 2 ^ a ≤ 128 := Nat.pow_le_pow_right (n := 2) (j := 7) (by decide) hb2
            have hp8 : 2 ^ n ≤ 256 := Nat.pow_le_pow_right (n := 2) (j := 8) (by decide) h8
            have HG := Lib.hid (HH.out.game hab hlt2 (.inr ⟨rfl, rfl⟩) eX)
            have HV := Lib.hid (add_shlw X a (by omega) (by omega))
            obtain ⟨hxc, hfz⟩ := HO.out.at1 HH.out.1 (by omega)
            have z1 := hxc b (by omega)
            rw [eX] at z1
            have f1 := hfz b
            have O2 := (HO.out.set_ HH.out.1 b ((X + 2 ^ a : Nat) : Int)).1
            have hgr : wk.grownBy (wk.setCell ⟨gl, b, none⟩ (.int .i64 ((X + 2 ^ a : Nat) : Int))).drew (some gl) := (let q := setCell_grown wk ⟨gl, b, none⟩ (.int .i64 ((X + 2 ^ a : Nat) : Int)); ⟨q.os, q.tape, q.output, q.size, q.block⟩)
            have HO2 := Lib.hid (show Own (wk.setCell ⟨gl, b, none⟩ (.int .i64 ((X + 2 ^ a : Nat) : Int))).drew w.heap.size _ _ from O2)
            have HU2 := Lib.hid (show BoxF (wk.setCell ⟨gl, b, none⟩ (.int .i64 ((X + 2 ^ a : Nat) : Int))).drew gu n _ from HU.out.kept hgr (by simp; omega))
            have HT2 := Lib.hid (show BoxF (wk.setCell ⟨gl, b, none⟩ (.int .i64 ((X + 2 ^ a : Nat) : Int))).drew w.heap.size 0 _ from HT.out.kept hgr (by simp; omega))
            have HB2 := Lib.hid (show Below w.heap.size w (wk.setCell ⟨gl, b, none⟩ (.int .i64 ((X + 2 ^ a : Nat) : Int))).drew from (HB.out.setCell (p := ⟨gl, b, none⟩) (by show w.heap.size ≤ gl; omega) _).drew)
            have y1 := HU.out.1.2
            have un : b < n := by omega
            have uni : (b : Int) < (n : Int) := by omega
            clear hxc hfz O2 hgr hp7 hp8 hX eX HH HO HU HT HB
            go_wp2_with fail
            have hv1 := HV.out
            go_region_law (fail)
            all_goals
              rw [show ((X : Int) + 2 ^ a) = ((X + 2 ^ a : Nat) : Int) by simp]
              clear z1 f1 y1 hv1
              generalize (wk.setCell ⟨gl, b, none⟩ (.int .i64 ((X + 2 ^ a : Nat) : Int))).drew = w9 at HO2 HU2 HT2 HB2 ⊢
              go_wp2
              go_roundw
              case rel => exact ⟨b + 1, _, _, by omega, by omega, by go_num, rfl, HG, HO2, HU2, HT2, HB2⟩
              case measure => simp [intOf]; omega
          · rw [hbit] at hand
            obtain ⟨X, eX, hX⟩ := HH.out.lt (x := a) (by omega)
            have hb2 : b ≤ 7 := by omega
            have hp7 : 2 ^ b ≤ 128 := Nat.pow_le_pow_right (n := 2) (j := 7) (by decide) hb2
            have hp8 : 2 ^ n ≤ 256 := Nat.pow_le_pow_right (n := 2) (j := 8) (by decide) h8
            have HG := Lib.hid (HH.out.game hab hlt2 (.inl ⟨rfl, rfl⟩) eX)
            have HV := Lib.hid (add_shlw X b (by omega) (by omega))
            obtain ⟨hxc, hfz⟩ := HO.out.at1 HH.out.1 (by omega)
            have z1 := hxc a (by omega)
            rw [eX] at z1
            have f1 := hfz a
            have O2 := (HO.out.set_ HH.out.1 a ((X + 2 ^ b : Nat) : Int)).1
            have hgr : wk.grownBy (wk.setCell ⟨gl, a, none⟩ (.int .i64 ((X + 2 ^ b : Nat) : Int))).drew (some gl) := (let q := setCell_grown wk ⟨gl, a, none⟩ (.int .i64 ((X + 2 ^ b : Nat) : Int)); ⟨q.os, q.tape, q.output, q.size, q.block⟩)
            have HO2 := Lib.hid (show Own (wk.setCell ⟨gl, a, none⟩ (.int .i64 ((X + 2 ^ b : Nat) : Int))).drew w.heap.size _ _ from O2)
            have HU2 := Lib.hid (show BoxF (wk.setCell ⟨gl, a, none⟩ (.int .i64 ((X + 2 ^ b : Nat) : Int))).drew gu n _ from HU.out.kept hgr (by simp; omega))
            have HT2 := Lib.hid (show BoxF (wk.setCell ⟨gl, a, none⟩ (.int .i64 ((X + 2 ^ b : Nat) : Int))).drew w.heap.size 0 _ from HT.out.kept hgr (by simp; omega))
            have HB2 := Lib.hid (show Below w.heap.size w (wk.setCell ⟨gl, a, none⟩ (.int .i64 ((X + 2 ^ b : Nat) : Int))).drew from (HB.out.setCell (p := ⟨gl, a, none⟩) (by show w.heap.size ≤ gl; omega) _).drew)
            have y1 := HU.out.1.2
            have un : a < n := by omega
            have uni : (a : Int) < (n : Int) := by omega
            clear hxc hfz O2 hgr hp7 hp8 hX eX HH HO HU HT HB
            go_wp2_with fail
            have hv1 := HV.out
            go_region_law (fail)
            all_goals
              rw [show ((X : Int) + 2 ^ b) = ((X + 2 ^ b : Nat) : Int) by simp]
              clear z1 f1 y1 hv1
              generalize (wk.setCell ⟨gl, a, none⟩ (.int .i64 ((X + 2 ^ b : Nat) : Int))).drew = w9 at HO2 HU2 HT2 HB2 ⊢
              go_wp2
              go_roundw
              case rel => exact ⟨b + 1, _, _, by omega, by omega, by go_num, rfl, HG, HO2, HU2, HT2, HB2⟩
              case measure => simp [intOf]; omega
        · obtain rfl : b = n := by omega
          have HR := Lib.hid HH.out.row
          go_wp2
          go_roundw
          case rel => exact ⟨a + 1, _, _, by omega, by go_num, rfl, HR, HO, HU, HT, HB⟩
          case measure => simp [intOf]; omega
    · obtain rfl : a = n := by omega
      have HTR := Lib.hid (HH.out.tour h1 h8)
      have u0 := HU.out.1.1
      have u1 := HU.out.1.2
      have t0 := HT.out.1.1
      have t1 := HT.out.1.2
      have f0 := HT.out.2 0
      have f1 := HT.out.2 1
      have HO' := Lib.hid ((HO.out.kept (setCell_grown _ ⟨w.heap.size, 0, none⟩ (.int .i64 a)) (by right; simp [Value.ownBlock]; omega)).kept (setCell_grown _ ⟨w.heap.size, 1, none⟩ (.slice (some ⟨gl, 0, none⟩) a a)) (by right; simp [Value.ownBlock]; omega))
      have HB' := Lib.hid ((HB.out.setCell (p := ⟨w.heap.size, 0, none⟩) (Nat.le_refl _) (.int .i64 a)).setCell (p := ⟨w.heap.size, 1, none⟩) (Nat.le_refl _) (.slice (some ⟨gl, 0, none⟩) a a))
      have R0 : Hid (((wo.setCell ⟨w.heap.size, 0, none⟩ (.int .i64 a)).setCell ⟨w.heap.size, 1, none⟩ (.slice (some ⟨gl, 0, none⟩) a a)).cell? ⟨w.heap.size, 0, none⟩ = some (.int .i64 a)) := (World.cell?_setCell_other _ _ _ _ (by simp)).trans (World.cell?_setCell_same _ _ _ t0)
      have R1 : Hid (((wo.setCell ⟨w.heap.size, 0, none⟩ (.int .i64 a)).setCell ⟨w.heap.size, 1, none⟩ (.slice (some ⟨gl, 0, none⟩) a a)).cell? ⟨w.heap.size, 1, none⟩ = some (.slice (some ⟨gl, 0, none⟩) a a)) := World.cell?_setCell_same _ _ _ ((World.cell?_setCell_other _ _ _ _ (by simp)).trans t1)
      go_wp2
      have r0 := R0.out
      have r1 := R1.out
      refine bodyPost_ret (v := .agg #[.int .i64 a, .slice (some ⟨gl, 0, none⟩) a a]) (by simp only [results, Tryz.results53]; simp [go_sem, r0, r1]) rfl ⟨_, N, rfl, HTR.out, HO'.out, HB'.out⟩
end Go.Proofs.YthoodjjjklbggaaGreatDoor

