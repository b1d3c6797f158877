/- Texts put together: OrdP, WyP, ArP. -/
import Derived.Test.YtbkiedhaacapbaaGreatMTop06
import Derived.Test.YtbkiedhaacapbaaGreatMTop07
import Derived.Test.YtbkiedhaacapbaaGreatMTop08
namespace Go.Proofs.YtbkiedhaacapbaaGreat
open Go.RowKit Go.Sort
set_option maxRecDepth 100000
theorem perm_sum (F : Nat → Int) {l m : List Nat} (h : l.Perm m) : (l.map F).sum = (m.map F).sum := by
  induction h with
  | nil => rfl
  | cons x _ ih => simp only [List.map_cons, List.sum_cons, ih]
  | swap x y l => simp only [List.map_cons, List.sum_cons]; omega
  | trans _ _ h1 h2 => rw [h1, h2]
theorem perm_full : ∀ (q m : List Nat), q.Nodup → (∀ x ∈ q, x ∈ m) → m.length ≤ q.length → q.Perm m := by
  intro q
  induction q with
  | nil =>
    intro m _ _ h
    have : m = [] := List.eq_nil_of_length_eq_zero (by simpa using h)
    rw [this]
  | cons a q ih =>
    intro m hn hs hl
    have ha : a ∈ m := hs a (by simp)
    rw [List.nodup_cons] at hn
    have h1 : (m.erase a).length ≤ q.length := by
      rw [List.length_erase_of_mem ha]
      simp only [List.length_cons] at hl
      omega
    have h2 := ih (m.erase a) hn.2 (fun x hx => (List.mem_erase_of_ne (fun e => by subst e; exact hn.1 hx)).2 (hs x (by simp [hx]))) h1
    exact (h2.cons a).trans (List.perm_cons_erase ha).symm
theorem ord_perm {n : Nat} {q : List Nat} (hq : q ∈ ordL n) : q.Perm (List.range n) := by
  obtain ⟨h1, h2, h3⟩ := mem_ordL.1 hq
  exact perm_full q _ h3 (fun x hx => List.mem_range.2 (h2 x hx)) (by rw [List.length_range, h1]; exact Nat.le_refl _)
theorem ord_sum {n : Nat} {q : List Nat} (hq : q ∈ ordL n) (F : Nat → Int) : sumN F n = sumN (fun i => F (q.getD i 0)) n := by
  obtain ⟨h1, h2, h3⟩ := mem_ordL.1 hq
  have hperm : q.Perm (List.range n) := ord_perm hq
  rw [← map_sumN, ← perm_sum F hperm, list_sumN, List.length_map, h1]
  refine sumN_congr fun i hi => ?_
  have : i < q.length := by omega
  simp [List.getD_eq_getElem?_getD, this]
theorem ord_at {n : Nat} {q : List Nat} (hq : q ∈ ordL n) : (∀ i, i < n → q.getD i 0 < n) ∧ (∀ i k, i < n → k < n → q.getD i 0 = q.getD k 0 → i = k) ∧ ∀ b, b < n → ∃ k, k < n ∧ q.getD k 0 = b := by
  obtain ⟨h1, h2, h3⟩ := mem_ordL.1 hq
  refine ⟨fun i hi => h2 _ (by rw [getD_nat (by omega)]; exact List.getElem_mem _), fun i k hi hk e => ?_, fun b hb => ?_⟩
  · rw [getD_nat (by omega), getD_nat (by omega)] at e
    exact (List.getElem_inj h3).1 e
  · have : b ∈ q := (ord_perm hq).mem_iff.2 (List.mem_range.2 hb)
    obtain ⟨k, hk, rfl⟩ := List.getElem_of_mem this
    exact ⟨k, by omega, getD_nat hk⟩
end Go.Proofs.YtbkiedhaacapbaaGreat

namespace Go.Proofs.YtbkiedhaacapbaaGreat
open Go.RowKit Go.Sort
set_option maxRecDepth 100000
theorem len_leG {α : Type} [DecidableEq α] : ∀ {q m : List α}, q.Nodup → (∀ x ∈ q, x ∈ m) → q.length ≤ m.length := by
  intro q
  induction q with
  | nil => intro m _ _; simp
  | cons a q ih =>
    intro m hn hs
    have ha : a ∈ m := hs a (by simp)
    rw [List.nodup_cons] at hn
    have := ih (m := m.erase a) hn.2 fun x hx => (List.mem_erase_of_ne (fun e => by subst e; exact hn.1 hx)).2 (hs x (by simp [hx]))
    rw [List.length_erase_of_mem ha] at this
    have := List.length_pos_of_mem ha
    simp only [List.length_cons]
    omega
theorem perm_fullG {α : Type} [DecidableEq α] : ∀ {q m : List α}, q.Nodup → (∀ x ∈ q, x ∈ m) → m.length ≤ q.length → q.Perm m := by
  intro q
  induction q with
  | nil =>
    intro m _ _ h
    have : m = [] := List.eq_nil_of_length_eq_zero (by simpa using h)
    rw [this]
  | cons a q ih =>
    intro m hn hs hl
    have ha : a ∈ m := hs a (by simp)
    rw [List.nodup_cons] at hn
    have h1 : (m.erase a).length ≤ q.length := by
      rw [List.length_erase_of_mem ha]
      simp only [List.length_cons] at hl
      omega
    have h2 := ih (m := m.erase a) hn.2 (fun x hx => (List.mem_erase_of_ne (fun e => by subst e; exact hn.1 hx)).2 (hs x (by simp [hx]))) h1
    exact (h2.cons a).trans (List.perm_cons_erase ha).symm
/-- the ways from a through all of S whose last player is in Q -/
def wyQ (r : Nat → Nat → Bool) (Q : Nat → Bool) (n : Nat) : Nat → Nat → Nat → Nat
  | 0, _, a => if Q a then 1 else 0
  | f + 1, S, a => if S = 0 then (if Q a then 1 else 0) else (((List.range n).filter fun b => S.testBit b && r a b).map fun b => wyQ r Q n f (less S (2 ^ b)) b).sum
theorem waysN_wyQ (xs : List Int) (n : Nat) : ∀ f S a, waysN xs n f S a = wyQ (bt xs) (fun _ => true) n f S a := by
  intro f
  induction f with
  | zero => intro S a; rfl
  | succ f ih =>
    intro S a
    rw [waysN, wyQ]
    split
    · rfl
    · have e : memN (S &&& winsN xs a) n = (List.range n).filter fun b => S.testBit b && bt xs a b := by
        unfold memN
        refine List.filter_congr fun x _ => ?_
        rw [Nat.testBit_and]
      rw [e]
      congr 1
      exact List.map_congr_left fun b _ => ih _ _
/-- each beats the next one -/
def chn (r : Nat → Nat → Bool) : Nat → List Nat → Bool
  | _, [] => true
  | a, b :: l => r a b && chn r b l
def way (r : Nat → Nat → Bool) : List Nat → Bool
  | [] => true
  | a :: l => chn r a l
theorem chn_snoc (r : Nat → Nat → Bool) (b : Nat) : ∀ (l : List Nat) (a : Nat), chn r a (l ++ [b]) = (chn r a l && r (lastN (a :: l)) b) := by
  intro l
  induction l with
  | nil => intro a; simp [chn, lastN]
  | cons x l ih =>
    intro a
    rw [List.cons_append, chn, chn, ih, Bool.and_assoc]
    have : lastN (a :: x :: l) = lastN (x :: l) := by simp [lastN]
    rw [this]
theorem way_snoc (r : Nat → Nat → Bool) (b : Nat) {l : List Nat} (h : l ≠ []) : way r (l ++ [b]) = (way r l && r (lastN l) b) := by
  cases l with
  | nil => exact absurd rfl h
  | cons a l => exact chn_snoc r b l a
theorem lastN_snoc' (l : List Nat) (b : Nat) : lastN (l ++ [b]) = b := by simp [lastN]
theorem way_iff (r : Nat → Nat → Bool) : ∀ l : List Nat, way r l = true ↔ ∀ i, i + 1 < l.length → r (l.getD i 0) (l.getD (i + 1) 0) = true := by
  intro l
  cases l with
  | nil => simp [way]
  | cons a l =>
    show chn r a l = true ↔ _
    induction l generalizing a with
    | nil => simp [chn]
    | cons b l ih =>
      rw [chn, Bool.and_eq_true, ih]
      constructor
      · rintro ⟨h1, h2⟩ i hi
        cases i with
        | zero => exact h1
        | succ i => exact h2 i (by simpa using hi)
      · intro h
        exact ⟨h 0 (by simp), fun i hi => h (i + 1) (by simpa using hi)⟩
theorem countP_flatMap' {α β : Type} (p : β → Bool) (f : α → List β) : ∀ l : List α, (l.flatMap f).countP p = (l.map fun x => (f x).countP p).sum := by
  intro l
  induction l with
  | nil => rfl
  | cons x l ih => rw [List.flatMap_cons, List.countP_append, List.map_cons, List.sum_cons, ih]
theorem sum_filter_zero {l : List Nat} {p : Nat → Bool} {F : Nat → Nat} (h : ∀ x ∈ l, p x = false → F x = 0) : (l.map F).sum = ((l.filter p).map F).sum := by
  induction l with
  | nil => rfl
  | cons x l ih =>
    have h1 := ih fun y hy => h y (by simp [hy])
    rw [List.map_cons, List.sum_cons, List.filter_cons, h1]
    rcases q : p x with _ | _
    · rw [h x (by simp) q]; simp
    · simp
theorem setW_less_snoc {n : Nat} {pre : List Nat} {b : Nat} : less (2 ^ n - 1) (setW (pre ++ [b])) = less (less (2 ^ n - 1) (setW pre)) (2 ^ b) := Nat.eq_of_testBit_eq fun j => by
  rw [testBit_less, testBit_less, testBit_less, setW_snoc, Nat.testBit_or]
  cases (2 ^ n - 1).testBit j <;> cases (setW pre).testBit j <;> cases (2 ^ b).testBit j <;> rfl
/-- the number of ways is a count of orders -/
theorem count_from {r : Nat → Nat → Bool} {Q : Nat → Bool} {n : Nat} : ∀ (m : Nat) (pre : List Nat), pre ≠ [] → pre.Nodup → (∀ x ∈ pre, x < n) → pre.length + m = n →
    (ordFrom n m pre).countP (fun l => way r l && Q (lastN l)) = if way r pre = true then wyQ r Q n m (less (2 ^ n - 1) (setW pre)) (lastN pre) else 0 := by
  intro m
  induction m with
  | zero =>
    intro pre hne hnd hlt hl
    rw [ordFrom, List.countP_cons, List.countP_nil, wyQ, Nat.zero_add]
    cases way r pre <;> simp
  | succ m ih =>
    intro pre hne hnd hlt hl
    rw [ordFrom, countP_flatMap']
    have hS : less (2 ^ n - 1) (setW pre) ≠ 0 := by
      intro h0
      have hall : ∀ b, b < n → b ∈ pre := fun b hb => by
        have := congrArg (fun z => z.testBit b) h0
        simp only [testBit_less, Nat.zero_testBit, testBit_full, testBit_setW, decide_eq_true hb, Bool.true_and, Bool.not_eq_eq_eq_not, Bool.not_false] at this
        simpa using this
      have := len_leG (q := List.range n) (m := pre) List.nodup_range fun x hx => hall x (List.mem_range.1 hx)
      rw [List.length_range] at this
      omega
    have hstep : ∀ b ∈ (List.range n).filter fun b => !pre.contains b, (ordFrom n m (pre ++ [b])).countP (fun l => way r l && Q (lastN l)) = if (way r pre && r (lastN pre) b) = true then wyQ r Q n m (less (less (2 ^ n - 1) (setW pre)) (2 ^ b)) b else 0 := by
      intro b hb
      rw [List.mem_filter, List.mem_range] at hb
      have hb2 : b ∉ pre := by simpa using hb.2
      rw [ih (pre ++ [b]) (by simp) (List.nodup_append.2 ⟨hnd, by simp, fun x hx y hy => by simp at hy; subst hy; intro e; subst e; exact hb2 hx⟩) (fun x hx => by
        rcases List.mem_append.1 hx with h | h
        · exact hlt x h
        · simp at h; subst h; exact hb.1) (by rw [List.length_append, List.length_singleton]; omega), way_snoc r b hne, setW_less_snoc, lastN_snoc']
    rw [List.map_congr_left hstep]
    rcases q : way r pre with _ | _
    · rw [if_neg (by decide)]
      have : ∀ l : List Nat, (l.map fun b => if (false && r (lastN pre) b) = true then wyQ r Q n m (less (less (2 ^ n - 1) (setW pre)) (2 ^ b)) b else 0).sum = 0 := by
        intro l
        induction l with
        | nil => rfl
        | cons x l ih => rw [List.map_cons, List.sum_cons, ih]; rfl
      exact this _
    · rw [if_pos rfl, wyQ, if_neg hS]
      rw [sum_filter_zero (p := fun b => r (lastN pre) b) (fun x _ hx => by rw [hx]; rfl), List.filter_filter]
      congr 1
      have hf : ((List.range n).filter fun b => r (lastN pre) b && !pre.contains b) = (List.range n).filter fun b => (less (2 ^ n - 1) (setW pre)).testBit b && r (lastN pre) b := by
        refine List.filter_congr fun b hb => ?_
        rw [testBit_less, testBit_full, decide_eq_true (List.mem_range.1 hb), testBit_setW, Bool.true_and, Bool.and_comm]
      rw [hf]
      refine List.map_congr_left fun b hb => ?_
      rw [List.mem_filter, Bool.and_eq_true] at hb
      rw [hb.2.2]; rfl
/-- how many orders are ways that end in Q -/
def cntQ (r : Nat → Nat → Bool) (Q : Nat → Bool) (n : Nat) : Nat := (ordL n).countP fun l => way r l && Q (lastN l)
theorem ordL_heads {n : Nat} (h1 : 1 ≤ n) : ordL n = (List.range n).flatMap fun a => ordFrom n (n - 1) [a] := by
  obtain ⟨m, rfl⟩ : ∃ m, n = m + 1 := ⟨n - 1, by omega⟩
  unfold ordL
  rw [ordFrom]
  have : ((List.range (m + 1)).filter fun b => !([] : List Nat).contains b) = List.range (m + 1) := by
    rw [List.filter_eq_self]; intro a _; rfl
  rw [this]
  rfl
theorem setW_one (a : Nat) : setW [a] = 2 ^ a := by simp [setW]
theorem cnt_sum {r : Nat → Nat → Bool} {Q : Nat → Bool} {n : Nat} (h1 : 1 ≤ n) : cntQ r Q n = ((List.range n).map fun a => wyQ r Q n (n - 1) (less (2 ^ n - 1) (2 ^ a)) a).sum := by
  unfold cntQ
  rw [ordL_heads h1, countP_flatMap']
  congr 1
  refine List.map_congr_left fun a ha => ?_
  have ha := List.mem_range.1 ha
  rw [count_from (n - 1) [a] (by simp) (by simp) (fun x hx => by simp at hx; omega) (by simp; omega), if_pos (show way r [a] = true from rfl), setW_one]
  rfl
/-- more steps than players change nothing -/
theorem wyQ_fuel {r : Nat → Nat → Bool} {Q : Nat → Bool} {n : Nat} : ∀ f g S a, S < 2 ^ n → (memN S n).length ≤ f → (memN S n).length ≤ g → wyQ r Q n f S a = wyQ r Q n g S a := by
  intro f
  induction f with
  | zero =>
    intro g S a hS hf hg
    have h0 : S = 0 := (card_zero hS).1 (by omega)
    subst h0
    cases g with
    | zero => rfl
    | succ g => rw [wyQ, wyQ, if_pos rfl]
  | succ f ih =>
    intro g S a hS hf hg
    cases g with
    | zero =>
      have h0 : S = 0 := (card_zero hS).1 (by omega)
      subst h0
      rw [wyQ, wyQ, if_pos rfl]
    | succ g =>
      rw [wyQ, wyQ]
      split
      · rfl
      · congr 1
        refine List.map_congr_left fun b hb => ?_
        rw [List.mem_filter, List.mem_range, Bool.and_eq_true] at hb
        have := card_less (mem_memN.2 ⟨hb.1, hb.2.1⟩)
        exact ih g _ b (less_lt hS) (by omega) (by omega)
theorem ordFrom_nodup {n : Nat} : ∀ (m : Nat) (pre : List Nat), pre.Nodup → (ordFrom n m pre).Nodup := by
  intro m
  induction m with
  | zero => intro pre _; simp [ordFrom]
  | succ m ih =>
    intro pre hp
    rw [ordFrom]
    have hl : ((List.range n).filter fun b => !pre.contains b).Nodup := List.Pairwise.filter _ List.nodup_range
    have hm : ∀ b ∈ (List.range n).filter fun b => !pre.contains b, (pre ++ [b]).Nodup := fun b hb => by
      rw [List.mem_filter] at hb
      have hb2 : b ∉ pre := by simpa using hb.2
      exact List.nodup_append.2 ⟨hp, by simp, fun x hx y hy => by simp at hy; subst hy; intro e; subst e; exact hb2 hx⟩
    generalize ((List.range n).filter fun b => !pre.contains b) = L at *
    induction L with
    | nil => simp
    | cons b L ihL =>
      rw [List.flatMap_cons]
      rw [List.nodup_cons] at hl
      refine List.nodup_append.2 ⟨ih _ (hm b (by simp)), ihL hl.2 fun c hc => hm c (by simp [hc]), fun x hx y hy => ?_⟩
      rw [List.mem_flatMap] at hy
      obtain ⟨c, hc, hy⟩ := hy
      obtain ⟨s1, e1, -⟩ := (mem_ordFrom (hm b (by simp))).1 hx
      obtain ⟨s2, e2, -⟩ := (mem_ordFrom (hm c (by simp [hc]))).1 hy
      intro e
      rw [e1, e2, List.append_assoc, List.append_assoc] at e
      have := List.append_cancel_left e
      simp at this
      rw [this.1] at hl
      exact hl.1 hc
theorem ordL_nodup (n : Nat) : (ordL n).Nodup := ordFrom_nodup n [] (by simp)
/-- a turn of the orders that keeps them and loses none counts alike -/
theorem ord_turn {n : Nat} {g : List Nat → List Nat} (hg : ∀ l ∈ ordL n, g l ∈ ordL n) (hi : ∀ l ∈ ordL n, ∀ m ∈ ordL n, g l = g m → l = m) (p : List Nat → Bool) : (ordL n).countP p = (ordL n).countP fun l => p (g l) := by
  have hnd : ((ordL n).map g).Nodup := by
    have := ordL_nodup n
    generalize ordL n = L at *
    have key : ∀ M : List (List Nat), M.Nodup → (∀ l ∈ M, l ∈ L) → (M.map g).Nodup := by
      intro M
      induction M with
      | nil => intro _ _; simp
      | cons x M ih =>
        intro h1 h2
        rw [List.nodup_cons] at h1
        rw [List.map_cons, List.nodup_cons]
        refine ⟨fun hx => ?_, ih h1.2 fun l hl => h2 l (by simp [hl])⟩
        obtain ⟨y, hy, e⟩ := List.mem_map.1 hx
        rw [hi y (h2 y (by simp [hy])) x (h2 x (by simp)) e] at hy
        exact h1.1 hy
    exact key L this fun l h => h
  have hp : ((ordL n).map g).Perm (ordL n) := perm_fullG hnd (fun x hx => by
    obtain ⟨y, hy, rfl⟩ := List.mem_map.1 hx
    exact hg y hy) (by simp)
  rw [← hp.countP_eq, List.countP_map]
  rfl
theorem way_map {r s : Nat → Nat → Bool} {f : Nat → Nat} {n : Nat} (hf : ∀ a b, a < n → b < n → s (f a) (f b) = r a b) : ∀ {l : List Nat}, (∀ x ∈ l, x < n) → way s (l.map f) = way r l := by
  intro l
  cases l with
  | nil => intro _; rfl
  | cons a l =>
    show (∀ x ∈ a :: l, x < n) → chn s (f a) (l.map f) = chn r a l
    induction l generalizing a with
    | nil => intro _; rfl
    | cons b l ih =>
      intro h
      rw [List.map_cons, chn, chn, hf a b (h a (by simp)) (h b (by simp)), ih b fun x hx => h x (by simp [hx])]
theorem lastN_map {f : Nat → Nat} {l : List Nat} (h : l ≠ []) : lastN (l.map f) = f (lastN l) := by
  have h0 : 0 < l.length := List.length_pos_iff.2 h
  unfold lastN
  rw [List.length_map]
  simp [List.getD_eq_getElem?_getD, show l.length - 1 < l.length by omega]
theorem map_turn {n : Nat} {f : Nat → Nat} (hf1 : ∀ a, a < n → f a < n) (hf2 : ∀ a b, a < n → b < n → f a = f b → a = b) : (∀ l ∈ ordL n, l.map f ∈ ordL n) ∧ ∀ l ∈ ordL n, ∀ m ∈ ordL n, l.map f = m.map f → l = m := by
  constructor
  · intro l hl
    obtain ⟨h1, h2, h3⟩ := mem_ordL.1 hl
    refine mem_ordL.2 ⟨by simp [h1], fun x hx => ?_, ?_⟩
    · obtain ⟨y, hy, rfl⟩ := List.mem_map.1 hx
      exact hf1 y (h2 y hy)
    · rw [List.Nodup, List.pairwise_map]
      exact h3.imp_of_mem fun ha hb hne e => hne (hf2 _ _ (h2 _ ha) (h2 _ hb) e)
  · intro l hl m hm e
    obtain ⟨h1, h2, -⟩ := mem_ordL.1 hl
    obtain ⟨k1, k2, -⟩ := mem_ordL.1 hm
    refine List.ext_getElem (by omega) fun i hi hi2 => ?_
    have := congrArg (fun z => z[i]?) e
    simp only [List.getElem?_map, List.getElem?_eq_getElem hi, List.getElem?_eq_getElem hi2, Option.map_some, Option.some.injEq] at this
    exact hf2 _ _ (h2 _ (List.getElem_mem hi)) (k2 _ (List.getElem_mem hi2)) this
/-- the number of ways under other names -/
theorem cnt_rename {r s : Nat → Nat → Bool} {f : Nat → Nat} {n : Nat} (hf1 : ∀ a, a < n → f a < n) (hf2 : ∀ a b, a < n → b < n → f a = f b → a = b) (hf : ∀ a b, a < n → b < n → s (f a) (f b) = r a b) : cntQ s (fun _ => true) n = cntQ r (fun _ => true) n := by
  obtain ⟨t1, t2⟩ := map_turn hf1 hf2
  unfold cntQ
  rw [ord_turn t1 t2]
  refine List.countP_congr fun l hl => ?_
  rw [way_map hf (mem_ordL.1 hl).2.1]
theorem chn_reverse {r s : Nat → Nat → Bool} (h : ∀ a b, s a b = r b a) (l : List Nat) : way s l.reverse = way r l := by
  rw [Bool.eq_iff_iff, way_iff, way_iff, List.length_reverse]
  have hg : ∀ i, i < l.length → l.reverse.getD i 0 = l.getD (l.length - 1 - i) 0 := fun i hi => by
    simp [List.getD_eq_getElem?_getD, List.getElem?_reverse hi]
  constructor
  · intro hw i hi
    have := hw (l.length - 1 - (i + 1)) (by omega)
    rw [hg _ (by omega), hg _ (by omega), h] at this
    rwa [show l.length - 1 - (l.length - 1 - (i + 1) + 1) = i by omega, show l.length - 1 - (l.length - 1 - (i + 1)) = i + 1 by omega] at this
  · intro hw i hi
    rw [hg _ (by omega), hg _ (by omega), h]
    have := hw (l.length - 1 - (i + 1)) (by omega)
    rwa [show l.length - 1 - (i + 1) + 1 = l.length - 1 - i by omega] at this
theorem rev_turn (n : Nat) : (∀ l ∈ ordL n, l.reverse ∈ ordL n) ∧ ∀ l ∈ ordL n, ∀ m ∈ ordL n, l.reverse = m.reverse → l = m := by
  constructor
  · intro l hl
    obtain ⟨h1, h2, h3⟩ := mem_ordL.1 hl
    exact mem_ordL.2 ⟨by simp [h1], fun x hx => h2 x (by simpa using hx), (List.reverse_perm l).symm.nodup h3⟩
  · intro l _ m _ e
    exact List.reverse_inj.1 e
theorem way_congr {r s : Nat → Nat → Bool} {n : Nat} (h : ∀ a b, a < n → b < n → s a b = r a b) {l : List Nat} (hl : ∀ x ∈ l, x < n) : way s l = way r l := by
  have := way_map (f := fun x => x) (r := r) (s := s) h hl
  rwa [List.map_id'] at this
/-- the number of ways of the reversed tour -/
theorem cnt_reverse {r s : Nat → Nat → Bool} {n : Nat} (h : ∀ a b, a < n → b < n → s a b = r b a) : cntQ s (fun _ => true) n = cntQ r (fun _ => true) n := by
  unfold cntQ
  rw [ord_turn (rev_turn n).1 (rev_turn n).2]
  refine List.countP_congr fun l hl => ?_
  have hm := (mem_ordL.1 ((rev_turn n).1 l hl)).2.1
  rw [← way_congr (s := s) (r := fun a b => s a b) (fun _ _ _ _ => rfl) hm, way_congr (r := fun a b => r b a) h hm, chn_reverse (r := r) (s := fun a b => r b a) (fun _ _ => rfl)]
/-- closed orders: each beats the next one, the last one the first -/
def clo2 (r : Nat → Nat → Bool) (l : List Nat) : Bool := way r l && r (lastN l) (l.headD 0)
def rot1 : List Nat → List Nat
  | [] => []
  | a :: l => l ++ [a]
theorem clo_rot (r : Nat → Nat → Bool) {l : List Nat} (h : l ≠ []) : clo2 r (rot1 l) = clo2 r l := by
  cases l with
  | nil => exact absurd rfl h
  | cons a l =>
    cases l with
    | nil => rfl
    | cons b l =>
      show (way r ((b :: l) ++ [a]) && r (lastN ((b :: l) ++ [a])) b) = (chn r a (b :: l) && r (lastN (a :: b :: l)) a)
      rw [way_snoc r a (by simp), lastN_snoc', chn, show lastN (a :: b :: l) = lastN (b :: l) by simp [lastN]]
      show (chn r b l && r (lastN (b :: l)) a && r a b) = (r a b && chn r b l && r (lastN (b :: l)) a)
      cases chn r b l <;> cases r (lastN (b :: l)) a <;> cases r a b <;> rfl
theorem rot_turn (n : Nat) : (∀ l ∈ ordL n, rot1 l ∈ ordL n) ∧ ∀ l ∈ ordL n, ∀ m ∈ ordL n, rot1 l = rot1 m → l = m := by
  constructor
  · intro l hl
    obtain ⟨h1, h2, h3⟩ := mem_ordL.1 hl
    cases l with
    | nil => exact hl
    | cons a l =>
      show l ++ [a] ∈ ordL n
      refine mem_ordL.2 ⟨by simpa using h1, (fun x hx => h2 x (by
        rcases List.mem_append.1 hx with h | h
        · exact List.mem_cons_of_mem _ h
        · simp at h; subst h; exact List.mem_cons_self)), ?_⟩
      rw [List.nodup_cons] at h3
      exact List.nodup_append.2 ⟨h3.2, by simp, fun x hx y hy => by simp at hy; subst hy; intro e; subst e; exact h3.1 hx⟩
  · intro l hl m hm e
    obtain ⟨h1, -, -⟩ := mem_ordL.1 hl
    obtain ⟨k1, -, -⟩ := mem_ordL.1 hm
    cases l with
    | nil => cases m with
      | nil => rfl
      | cons b m => simp at h1 k1; omega
    | cons a l => cases m with
      | nil => simp at h1 k1; omega
      | cons b m =>
        have := List.append_inj' (show l ++ [a] = m ++ [b] from e) rfl
        simp at this
        rw [this.1, this.2]
/-- closed orders with s at the place i -/
def cntAt (r : Nat → Nat → Bool) (n i s : Nat) : Nat := (ordL n).countP fun l => clo2 r l && decide (l.getD i 0 = s)
def cntC (r : Nat → Nat → Bool) (n : Nat) : Nat := (ordL n).countP fun l => clo2 r l
theorem cntAt_step {r : Nat → Nat → Bool} {n i s : Nat} (hi : i + 1 < n) : cntAt r n i s = cntAt r n (i + 1) s := by
  unfold cntAt
  rw [ord_turn (rot_turn n).1 (rot_turn n).2]
  refine List.countP_congr fun l hl => ?_
  have h1 := (mem_ordL.1 hl).1
  cases l with
  | nil => simp at h1; omega
  | cons a l =>
    rw [clo_rot r (by simp)]
    have e : (rot1 (a :: l)).getD i 0 = (a :: l).getD (i + 1) 0 := by
      show (l ++ [a]).getD i 0 = l.getD i 0
      simp [List.getD_eq_getElem?_getD, List.getElem?_append_left (show i < l.length by simp at h1; omega)]
    rw [e]
theorem cntAt_zero {r : Nat → Nat → Bool} {n s : Nat} : ∀ i, i < n → cntAt r n i s = cntAt r n 0 s := by
  intro i
  induction i with
  | zero => intro _; rfl
  | succ i ih => intro hi; rw [← cntAt_step hi, ih (by omega)]
def sumW (f : Nat → Nat) : Nat → Nat
  | 0 => 0
  | k + 1 => sumW f k + f k
theorem sumW_congr {f g : Nat → Nat} : ∀ {n : Nat}, (∀ k, k < n → f k = g k) → sumW f n = sumW g n := by
  intro n
  induction n with
  | zero => intro _; rfl
  | succ n ih => intro h; rw [sumW, sumW, ih fun k hk => h k (by omega), h n (by omega)]
theorem sumW_add (f g : Nat → Nat) : ∀ n, sumW (fun i => f i + g i) n = sumW f n + sumW g n := by
  intro n
  induction n with
  | zero => rfl
  | succ n ih => simp only [sumW, ih]; omega
theorem sumW_const (c : Nat) : ∀ n, sumW (fun _ => c) n = n * c := by
  intro n
  induction n with
  | zero => simp [sumW]
  | succ n ih => rw [sumW, ih, Nat.succ_mul]
theorem sumW_one {f : Nat → Nat} {i0 : Nat} : ∀ n, i0 < n → (∀ i, i < n → f i = if i = i0 then 1 else 0) → sumW f n = 1 := by
  have h0 : ∀ n, n ≤ i0 → (∀ i, i < n → f i = if i = i0 then 1 else 0) → sumW f n = 0 := by
    intro n
    induction n with
    | zero => intro _ _; rfl
    | succ n ih => intro h1 h2; rw [sumW, ih (by omega) fun i hi => h2 i (by omega), h2 n (by omega), if_neg (by omega)]
  intro n
  induction n with
  | zero => intro h; omega
  | succ n ih =>
    intro h1 h2
    rw [sumW, h2 n (by omega)]
    by_cases e : n = i0
    · rw [h0 n (by omega) fun i hi => h2 i (by omega), if_pos e]
    · rw [ih (by omega) fun i hi => h2 i (by omega), if_neg e]
theorem sum_count {p : List Nat → Bool} {q : Nat → List Nat → Bool} {n : Nat} : ∀ M : List (List Nat), (∀ l ∈ M, ∃ i0, i0 < n ∧ ∀ i, i < n → (q i l = true ↔ i = i0)) → sumW (fun i => M.countP fun l => p l && q i l) n = M.countP p := by
  intro M
  induction M with
  | nil => intro _; rw [List.countP_nil, sumW_congr (g := fun _ => 0) fun k _ => List.countP_nil, sumW_const]; rfl
  | cons l M ih =>
    intro h
    rw [sumW_congr (g := fun i => (M.countP fun l => p l && q i l) + if (p l && q i l) = true then 1 else 0) fun k _ => List.countP_cons, sumW_add, ih fun x hx => h x (by simp [hx]), List.countP_cons]
    congr 1
    rcases hpl : p l with _ | _
    · have e : (fun i => if (false && q i l) = true then 1 else 0) = fun _ : Nat => (0 : Nat) := by funext i; rfl
      rw [e, sumW_const]; rfl
    · obtain ⟨i0, hi0, hq⟩ := h l (by simp)
      rw [if_pos rfl]
      refine sumW_one n hi0 fun i hi => ?_
      rw [Bool.true_and]
      by_cases e : i = i0
      · rw [if_pos e, if_pos ((hq i hi).2 e)]
      · rw [if_neg e, if_neg fun hh => e ((hq i hi).1 hh)]
/-- n times the closed orders from s are all closed orders -/
theorem cntC_at {r : Nat → Nat → Bool} {n s : Nat} (hs : s < n) : n * cntAt r n 0 s = cntC r n := by
  rw [← sumW_const, ← sumW_congr (f := fun i => cntAt r n i s) fun k hk => cntAt_zero k hk]
  refine sum_count (ordL n) fun l hl => ?_
  obtain ⟨-, -, h3⟩ := mem_ordL.1 hl
  obtain ⟨o1, o2, o3⟩ := ord_at hl
  obtain ⟨i0, h0, e0⟩ := o3 s hs
  refine ⟨i0, h0, fun i hi => ?_⟩
  rw [decide_eq_true_eq]
  constructor
  · intro e; exact o2 i i0 hi h0 (by rw [e, e0])
  · intro e; subst e; exact e0
theorem headD_getD (l : List Nat) : l.headD 0 = l.getD 0 0 := by cases l <;> rfl
theorem clo_map {r s : Nat → Nat → Bool} {f : Nat → Nat} {n : Nat} (hf : ∀ a b, a < n → b < n → s (f a) (f b) = r a b) {l : List Nat} (hne : l ≠ []) (hl : ∀ x ∈ l, x < n) : clo2 s (l.map f) = clo2 r l := by
  unfold clo2
  have h0 : 0 < l.length := List.length_pos_iff.2 hne
  have hh : (l.map f).headD 0 = f (l.headD 0) := by cases l with
    | nil => exact absurd rfl hne
    | cons a l => rfl
  rw [way_map hf hl, lastN_map hne, hh, hf _ _ (hl _ (by unfold lastN; rw [getD_nat (by omega)]; exact List.getElem_mem _)) (hl _ (by rw [headD_getD, getD_nat h0]; exact List.getElem_mem _))]
theorem ord_ne {n : Nat} (h1 : 1 ≤ n) {l : List Nat} (hl : l ∈ ordL n) : l ≠ [] := fun e => by
  have := (mem_ordL.1 hl).1
  rw [e] at this
  simp at this
  omega
theorem cntC_rename {r s : Nat → Nat → Bool} {f : Nat → Nat} {n : Nat} (h1 : 1 ≤ n) (hf1 : ∀ a, a < n → f a < n) (hf2 : ∀ a b, a < n → b < n → f a = f b → a = b) (hf : ∀ a b, a < n → b < n → s (f a) (f b) = r a b) : cntC s n = cntC r n := by
  obtain ⟨t1, t2⟩ := map_turn hf1 hf2
  unfold cntC
  rw [ord_turn t1 t2]
  refine List.countP_congr fun l hl => ?_
  rw [clo_map hf (ord_ne h1 hl) (mem_ordL.1 hl).2.1]
theorem cntC_reverse {r s : Nat → Nat → Bool} {n : Nat} (h1 : 1 ≤ n) (h : ∀ a b, a < n → b < n → s a b = r b a) : cntC s n = cntC r n := by
  unfold cntC
  rw [ord_turn (rev_turn n).1 (rev_turn n).2]
  refine List.countP_congr fun l hl => ?_
  have hm := (mem_ordL.1 hl).2.1
  have hm2 := (mem_ordL.1 ((rev_turn n).1 l hl)).2.1
  have hne := ord_ne h1 hl
  have h0 : 0 < l.length := List.length_pos_iff.2 hne
  unfold clo2
  rw [way_congr (r := fun a b => r b a) h hm2, chn_reverse (r := r) (s := fun a b => r b a) (fun _ _ => rfl)]
  have e1 : lastN l.reverse = l.headD 0 := by
    unfold lastN
    rw [List.length_reverse, headD_getD]
    simp [List.getD_eq_getElem?_getD, List.getElem?_reverse (show l.length - 1 < l.length by omega)]
    try (congr 2; omega)
  have e2 : l.reverse.headD 0 = lastN l := by
    unfold lastN
    rw [headD_getD]
    simp [List.getD_eq_getElem?_getD, List.getElem?_reverse h0]
  rw [e1, e2, h _ _ (hm _ (by rw [headD_getD, getD_nat h0]; exact List.getElem_mem _)) (hm _ (by unfold lastN; rw [getD_nat (by omega)]; exact List.getElem_mem _))]
/-- the program's count of closed ways -/
theorem cntAt_count {r : Nat → Nat → Bool} {n s : Nat} (hs : s < n) : cntAt r n 0 s = wyQ r (fun a => r a s) n (n - 1) (less (2 ^ n - 1) (2 ^ s)) s := by
  have h1 : 1 ≤ n := by omega
  have hc := count_from (r := r) (Q := fun a => r a s) (n - 1) [s] (by simp) (by simp) (fun x hx => by simp at hx; subst hx; exact hs) (by simp; omega)
  rw [if_pos (show way r [s] = true from rfl), setW_one] at hc
  have e : lastN [s] = s := rfl
  rw [e] at hc
  rw [← hc]
  unfold cntAt
  rw [ordL_heads h1, countP_flatMap']
  have hz : ∀ a ∈ List.range n, ((ordFrom n (n - 1) [a]).countP fun l => clo2 r l && decide (l.getD 0 0 = s)) = if a = s then (ordFrom n (n - 1) [s]).countP fun l => way r l && r (lastN l) s else 0 := fun a ha => by
    have hm : ∀ l ∈ ordFrom n (n - 1) [a], l.getD 0 0 = a := fun l hl => by
      obtain ⟨suf, rfl, -⟩ := (mem_ordFrom (by simp)).1 hl
      rfl
    by_cases e : a = s
    · subst e
      rw [if_pos rfl]
      refine List.countP_congr fun l hl => ?_
      unfold clo2
      rw [headD_getD, hm l hl, decide_eq_true rfl, Bool.and_true]
    · rw [if_neg e, List.countP_eq_zero]
      intro l hl
      rw [hm l hl, decide_eq_false e, Bool.and_false]
      decide
  rw [List.map_congr_left hz]
  have key : ∀ (c : Nat) (k : Nat), ((List.range k).map fun a => if a = s then c else 0).sum = if s < k then c else 0 := by
    intro c k
    induction k with
    | zero => rfl
    | succ k ih =>
      rw [List.range_succ, List.map_append, List.sum_append, ih, List.map_cons, List.map_nil, List.sum_cons, List.sum_nil]
      by_cases h : s < k
      · have h2 : ¬ k = s := by omega
        have h3 : s < k + 1 := by omega
        rw [if_pos h, if_neg h2, if_pos h3]; omega
      · by_cases h2 : k = s
        · have h3 : s < k + 1 := by omega
          rw [if_neg h, if_pos h2, if_pos h3]; omega
        · have h3 : ¬ s < k + 1 := by omega
          rw [if_neg h, if_neg h2, if_neg h3]
          rfl
  rw [key, if_pos hs]
end Go.Proofs.YtbkiedhaacapbaaGreat

namespace Go.Proofs.YtbkiedhaacapbaaGreat
open Go.RowKit Go.Sort
/-- the reversals of an order: who stands behind beats who stands ahead -/
def revN (r : Nat → Nat → Bool) : List Nat → Nat
  | [] => 0
  | a :: l => (l.countP fun b => r b a) + revN r l
/-- the reversals of who is first in a set -/
def costN (r : Nat → Nat → Bool) (n S a : Nat) : Nat := (memN S n).countP fun b => r b a
def arStp (C : Nat → Int) (M : Nat → Nat) (acc : Int × Nat) (a : Nat) : Int × Nat :=
  if acc.1 < 0 ∨ C a < acc.1 then (C a, M a) else if C a = acc.1 then (acc.1, acc.2 + M a) else acc
def arN (r : Nat → Nat → Bool) (n : Nat) : Nat → Nat → Int × Nat
  | 0, _ => (0, 1)
  | f + 1, S => if S = 0 then (0, 1) else (memN S n).foldl (arStp (fun a => (costN r n S a : Int) + (arN r n f (less S (2 ^ a))).1) (fun a => (arN r n f (less S (2 ^ a))).2)) (-1, 0)
/-- the orders of a set -/
def orsN (n : Nat) : Nat → Nat → List (List Nat)
  | 0, _ => [[]]
  | f + 1, S => (memN S n).flatMap fun a => (orsN n f (less S (2 ^ a))).map (a :: ·)
theorem fold_pos {C : Nat → Int} {M : Nat → Nat} : ∀ (l : List Nat) (m0 : Int) (k0 : Nat), 0 ≤ m0 → (∀ a ∈ l, 0 ≤ C a) →
    ∃ m K, l.foldl (arStp C M) (m0, k0) = (m, K) ∧ 0 ≤ m ∧ m ≤ m0 ∧ (∀ a ∈ l, m ≤ C a) ∧ (m = m0 ∨ ∃ a ∈ l, C a = m) ∧ K = (if m = m0 then k0 else 0) + (l.map fun a => if C a = m then M a else 0).sum := by
  intro l
  induction l with
  | nil => intro m0 k0 h0 _; exact ⟨m0, k0, rfl, h0, Int.le_refl _, by simp, .inl rfl, by simp⟩
  | cons a l ih =>
    intro m0 k0 h0 hC
    have hCa := hC a (by simp)
    have hCl : ∀ b ∈ l, 0 ≤ C b := fun b hb => hC b (by simp [hb])
    rw [List.foldl_cons]
    unfold arStp
    rcases Int.lt_trichotomy (C a) m0 with h | h | h
    · rw [if_pos (.inr h)]
      obtain ⟨m, K, e, h1, h2, h3, h4, h5⟩ := ih (C a) (M a) hCa hCl
      refine ⟨m, K, e, h1, by omega, fun b hb => ?_, .inr ?_, ?_⟩
      · rcases List.mem_cons.1 hb with rfl | hb
        · exact h2
        · exact h3 b hb
      · rcases h4 with h4 | ⟨b, hb, h4⟩
        · exact ⟨a, by simp, h4.symm⟩
        · exact ⟨b, by simp [hb], h4⟩
      · rw [h5, List.map_cons, List.sum_cons, if_neg (by omega : ¬ m = m0), Nat.zero_add]
        by_cases q : m = C a
        · rw [if_pos q, if_pos q.symm]
        · rw [if_neg q, if_neg (fun e => q e.symm)]
    · rw [if_neg (by show ¬ (m0 < 0 ∨ C a < m0); omega), if_pos h]
      obtain ⟨m, K, e, h1, h2, h3, h4, h5⟩ := ih m0 (k0 + M a) h0 hCl
      refine ⟨m, K, e, h1, h2, fun b hb => ?_, ?_, ?_⟩
      · rcases List.mem_cons.1 hb with rfl | hb
        · omega
        · exact h3 b hb
      · rcases h4 with h4 | ⟨b, hb, h4⟩
        · exact .inl h4
        · exact .inr ⟨b, by simp [hb], h4⟩
      · rw [h5, List.map_cons, List.sum_cons]
        by_cases q : m = m0
        · rw [if_pos q, if_pos q, if_pos (by omega)]; omega
        · rw [if_neg q, if_neg q, if_neg (by omega)]; omega
    · rw [if_neg (by show ¬ (m0 < 0 ∨ C a < m0); omega), if_neg (by show ¬ C a = m0; omega)]
      obtain ⟨m, K, e, h1, h2, h3, h4, h5⟩ := ih m0 k0 h0 hCl
      refine ⟨m, K, e, h1, h2, fun b hb => ?_, ?_, ?_⟩
      · rcases List.mem_cons.1 hb with rfl | hb
        · omega
        · exact h3 b hb
      · rcases h4 with h4 | ⟨b, hb, h4⟩
        · exact .inl h4
        · exact .inr ⟨b, by simp [hb], h4⟩
      · rw [h5, List.map_cons, List.sum_cons, if_neg (by omega : ¬ C a = m)]; omega
theorem fold_min {C : Nat → Int} {M : Nat → Nat} {l : List Nat} (hl : l ≠ []) (hC : ∀ a ∈ l, 0 ≤ C a) :
    ∃ m K, l.foldl (arStp C M) (-1, 0) = (m, K) ∧ 0 ≤ m ∧ (∀ a ∈ l, m ≤ C a) ∧ (∃ a ∈ l, C a = m) ∧ K = (l.map fun a => if C a = m then M a else 0).sum := by
  cases l with
  | nil => exact absurd rfl hl
  | cons a l =>
    rw [List.foldl_cons]
    have e0 : arStp C M (-1, 0) a = (C a, M a) := by unfold arStp; exact if_pos (.inl (by decide))
    rw [e0]
    obtain ⟨m, K, e, h1, h2, h3, h4, h5⟩ := fold_pos (M := M) l (C a) (M a) (hC a (by simp)) fun b hb => hC b (by simp [hb])
    refine ⟨m, K, e, h1, fun b hb => ?_, ?_, ?_⟩
    · rcases List.mem_cons.1 hb with rfl | hb
      · exact h2
      · exact h3 b hb
    · rcases h4 with h4 | ⟨b, hb, h4⟩
      · exact ⟨a, by simp, h4.symm⟩
      · exact ⟨b, by simp [hb], h4⟩
    · rw [h5, List.map_cons, List.sum_cons]
      by_cases q : m = C a
      · rw [if_pos q, if_pos q.symm]
      · rw [if_neg q, if_neg (fun e => q e.symm)]
theorem orsN_perm {n : Nat} : ∀ f S, S < 2 ^ n → (memN S n).length = f → ∀ l ∈ orsN n f S, l.Perm (memN S n) := by
  intro f
  induction f with
  | zero =>
    intro S hS hf l hl
    rw [orsN, List.mem_singleton] at hl
    rw [hl, List.eq_nil_of_length_eq_zero hf]
  | succ f ih =>
    intro S hS hf l hl
    rw [orsN, List.mem_flatMap] at hl
    obtain ⟨a, ha, hl⟩ := hl
    rw [List.mem_map] at hl
    obtain ⟨t, ht, rfl⟩ := hl
    have hc := card_less ha
    have := ih (less S (2 ^ a)) (less_lt hS) (by omega) t ht
    rw [memN_less, ← (memN_nodup S n).erase_eq_filter] at this
    exact (this.cons a).trans (List.perm_cons_erase ha).symm
theorem costN_less (r : Nat → Nat → Bool) (n S a : Nat) (haa : r a a = false) : (memN (less S (2 ^ a)) n).countP (fun b => r b a) = costN r n S a := by
  unfold costN
  rw [memN_less, List.countP_filter]
  refine List.countP_congr fun b _ => ?_
  by_cases e : b = a
  · subst e; simp [haa]
  · simp [e]
/-- the table's law -/
theorem arN_law {r : Nat → Nat → Bool} {n : Nat} (hr : ∀ a, r a a = false) : ∀ f S, S < 2 ^ n → (memN S n).length = f →
    ∃ m : Nat, (arN r n f S).1 = m ∧ (∀ l ∈ orsN n f S, m ≤ revN r l) ∧ (∃ l ∈ orsN n f S, revN r l = m) ∧ (arN r n f S).2 = (orsN n f S).countP fun l => revN r l == m := by
  intro f
  induction f with
  | zero =>
    intro S _ _
    refine ⟨0, rfl, fun l _ => Nat.zero_le _, ⟨[], by simp [orsN], rfl⟩, ?_⟩
    simp [orsN, arN, revN]
  | succ f ih =>
    intro S hS hf
    have h0 : S ≠ 0 := fun e => by rw [(card_zero hS).2 e] at hf; omega
    have hne : memN S n ≠ [] := fun e => by rw [e] at hf; simp at hf
    have hrec : ∀ a ∈ memN S n, ∃ m : Nat, (arN r n f (less S (2 ^ a))).1 = m ∧ (∀ l ∈ orsN n f (less S (2 ^ a)), m ≤ revN r l) ∧ (∃ l ∈ orsN n f (less S (2 ^ a)), revN r l = m) ∧ (arN r n f (less S (2 ^ a))).2 = (orsN n f (less S (2 ^ a))).countP fun l => revN r l == m :=
      fun a ha => ih _ (less_lt hS) (by have := card_less ha; omega)
    have hrev : ∀ a ∈ memN S n, ∀ l ∈ orsN n f (less S (2 ^ a)), revN r (a :: l) = costN r n S a + revN r l := fun a ha l hl => by
      rw [revN, (orsN_perm f _ (less_lt hS) (by have := card_less ha; omega) l hl).countP_eq, costN_less r n S a (hr a)]
    obtain ⟨m, K, e, h1, h2, ⟨a0, ha0, h3⟩, h4⟩ := fold_min (C := fun a => (costN r n S a : Int) + (arN r n f (less S (2 ^ a))).1) (M := fun a => (arN r n f (less S (2 ^ a))).2) hne (fun a ha => by
      obtain ⟨k, hk, -⟩ := hrec a ha
      simp only [hk]; omega)
    obtain ⟨m, rfl⟩ := Int.eq_ofNat_of_zero_le h1
    refine ⟨m, by rw [arN, if_neg h0, e], fun l hl => ?_, ?_, ?_⟩
    · rw [orsN, List.mem_flatMap] at hl
      obtain ⟨a, ha, hl⟩ := hl
      rw [List.mem_map] at hl
      obtain ⟨t, ht, rfl⟩ := hl
      obtain ⟨k, hk, hk1, -⟩ := hrec a ha
      have := h2 a ha
      have := hk1 t ht
      rw [hrev a ha t ht]
      rw [hk] at *
      omega
    · obtain ⟨k, hk, -, ⟨t, ht, hk2⟩, -⟩ := hrec a0 ha0
      refine ⟨a0 :: t, by rw [orsN]; exact List.mem_flatMap.2 ⟨a0, ha0, List.mem_map.2 ⟨t, ht, rfl⟩⟩, ?_⟩
      rw [hrev a0 ha0 t ht]
      rw [hk] at h3
      omega
    · rw [arN, if_neg h0, e, orsN, countP_flatMap']
      show K = _
      rw [h4]
      congr 1
      refine List.map_congr_left fun a ha => ?_
      obtain ⟨k, hk, hk1, -, hk3⟩ := hrec a ha
      have h2a := h2 a ha
      rw [List.countP_map, hk3]
      rw [hk] at h2a ⊢
      split
      · next q =>
        refine List.countP_congr fun l hl => ?_
        have := hrev a ha l hl
        simp only [Function.comp, beq_iff_eq]
        omega
      · next q =>
        symm
        rw [List.countP_eq_zero]
        intro l hl
        have := hrev a ha l hl
        have := hk1 l hl
        simp only [Function.comp, beq_iff_eq]
        omega
/-- more steps than players change nothing -/
theorem arN_fuel {r : Nat → Nat → Bool} {n : Nat} : ∀ f g S, S < 2 ^ n → (memN S n).length ≤ f → (memN S n).length ≤ g → arN r n f S = arN r n g S := by
  intro f
  induction f with
  | zero =>
    intro g S hS hf hg
    have h0 : S = 0 := (card_zero hS).1 (by omega)
    subst h0
    cases g with
    | zero => rfl
    | succ g => rw [arN, arN, if_pos rfl]
  | succ f ih =>
    intro g S hS hf hg
    cases g with
    | zero =>
      have h0 : S = 0 := (card_zero hS).1 (by omega)
      subst h0
      rw [arN, arN, if_pos rfl]
    | succ g =>
      rw [arN, arN]
      split
      · rfl
      · have hc : ∀ a ∈ memN S n, arN r n f (less S (2 ^ a)) = arN r n g (less S (2 ^ a)) := fun a ha => by
          have := card_less ha
          exact ih g _ (less_lt hS) (by omega) (by omega)
        generalize ((-1, 0) : Int × Nat) = acc
        generalize hL : memN S n = L at *
        clear hL
        have hg2 : ∀ (M : List Nat), (∀ a ∈ M, a ∈ L) → ∀ acc, M.foldl (arStp (fun a => (costN r n S a : Int) + (arN r n f (less S (2 ^ a))).1) (fun a => (arN r n f (less S (2 ^ a))).2)) acc = M.foldl (arStp (fun a => (costN r n S a : Int) + (arN r n g (less S (2 ^ a))).1) (fun a => (arN r n g (less S (2 ^ a))).2)) acc := by
          intro M
          induction M with
          | nil => intro _ acc; rfl
          | cons a M ihM =>
            intro hM acc
            rw [List.foldl_cons, List.foldl_cons, ihM fun b hb => hM b (by simp [hb])]
            congr 1
            unfold arStp
            simp only [hc a (hM a (by simp))]
        exact hg2 L (fun _ h => h) acc
/-- the orders of all players are those of the whole set -/
theorem ordFrom_ordS {n : Nat} : ∀ (m : Nat) (pre : List Nat), ordFrom n m pre = (orsN n m (less (2 ^ n - 1) (setW pre))).map (pre ++ ·) := by
  intro m
  induction m with
  | zero => intro pre; simp [ordFrom, orsN]
  | succ m ih =>
    intro pre
    have e : memN (less (2 ^ n - 1) (setW pre)) n = (List.range n).filter fun b => !pre.contains b := by
      unfold memN
      refine List.filter_congr fun b hb => ?_
      rw [testBit_less, testBit_full, decide_eq_true (List.mem_range.1 hb), testBit_setW, Bool.true_and]
    rw [ordFrom, orsN, List.map_flatMap, e]
    congr 1
    funext b
    rw [ih, setW_less_snoc, List.map_map]
    congr 1
    funext l
    simp
theorem ordL_ordS (n : Nat) : ordL n = orsN n n (2 ^ n - 1) := by
  unfold ordL
  rw [ordFrom_ordS]
  have e1 : less (2 ^ n - 1) (setW []) = 2 ^ n - 1 := Nat.eq_of_testBit_eq fun j => by
    rw [testBit_less, testBit_setW]; simp
  have e2 : (([] : List Nat) ++ ·) = (fun l : List Nat => l) := by funext l; rfl
  rw [e1, e2, List.map_id']
theorem full_ltN (n : Nat) : 2 ^ n - 1 < 2 ^ n := by have := Nat.two_pow_pos n; omega
theorem full_mem (n : Nat) : memN (2 ^ n - 1) n = List.range n := by
  unfold memN
  rw [List.filter_eq_self]
  intro a ha
  rw [testBit_full, decide_eq_true (List.mem_range.1 ha)]
/-- the table -/
def arT (r : Nat → Nat → Bool) (n S : Nat) : Int × Nat := arN r n n S
/-- the least number of reversals, and how many orders have it -/
def fewN (r : Nat → Nat → Bool) (n : Nat) : Nat := (arT r n (2 ^ n - 1)).1.toNat
def manyN (r : Nat → Nat → Bool) (n : Nat) : Nat := (arT r n (2 ^ n - 1)).2
theorem arT_eq {r : Nat → Nat → Bool} {n S : Nat} (hS : S < 2 ^ n) (h0 : S ≠ 0) : arT r n S = (memN S n).foldl (arStp (fun a => (costN r n S a : Int) + (arT r n (less S (2 ^ a))).1) (fun a => (arT r n (less S (2 ^ a))).2)) (-1, 0) := by
  have hl : (memN S n).length ≤ n := memN_len S n
  have hn : (memN S n).length ≠ 0 := fun e => h0 ((card_zero hS).1 e)
  obtain ⟨f, rfl⟩ : ∃ f, n = f + 1 := ⟨n - 1, by omega⟩
  unfold arT
  rw [arN_fuel (f + 1) (f + 2) S hS (by omega) (by omega), arN, if_neg h0]
theorem arT_zero (r : Nat → Nat → Bool) (n : Nat) : arT r n 0 = (0, 1) := by
  unfold arT
  cases n with
  | zero => rfl
  | succ n => rw [arN, if_pos rfl]
theorem arT_law {r : Nat → Nat → Bool} {n S : Nat} (hr : ∀ a, r a a = false) (hS : S < 2 ^ n) :
    ∃ m : Nat, (arT r n S).1 = m ∧ (∀ l ∈ orsN n (memN S n).length S, m ≤ revN r l) ∧ (∃ l ∈ orsN n (memN S n).length S, revN r l = m) ∧ (arT r n S).2 = (orsN n (memN S n).length S).countP fun l => revN r l == m := by
  have h := arN_law hr (memN S n).length S hS rfl
  unfold arT
  rw [arN_fuel n (memN S n).length S hS (memN_len S n) (Nat.le_refl _)]
  exact h
theorem few_law {r : Nat → Nat → Bool} {n : Nat} (hr : ∀ a, r a a = false) :
    (arT r n (2 ^ n - 1)).1 = (fewN r n : Int) ∧ (∀ l ∈ ordL n, fewN r n ≤ revN r l) ∧ (∃ l ∈ ordL n, revN r l = fewN r n) ∧ manyN r n = (ordL n).countP fun l => revN r l == fewN r n := by
  obtain ⟨m, h1, h2, h3, h4⟩ := arT_law (r := r) hr (full_ltN n)
  rw [full_mem, List.length_range, ← ordL_ordS] at h2 h3 h4
  have e : fewN r n = m := by unfold fewN; rw [h1]; rfl
  rw [e]
  exact ⟨h1, h2, h3, h4⟩
theorem many_pos {r : Nat → Nat → Bool} {n : Nat} (hr : ∀ a, r a a = false) : 1 ≤ manyN r n := by
  obtain ⟨-, -, ⟨l, hl, h3⟩, h4⟩ := few_law (r := r) (n := n) hr
  rw [h4]
  exact List.countP_pos_iff.2 ⟨l, hl, by simp [h3]⟩
/-- bounds -/
theorem revN_le (r : Nat → Nat → Bool) : ∀ l : List Nat, revN r l ≤ l.length * l.length := by
  intro l
  induction l with
  | nil => simp [revN]
  | cons a l ih =>
    rw [revN, List.length_cons]
    have := List.countP_le_length (p := fun b => r b a) (l := l)
    have e : (l.length + 1) * (l.length + 1) = l.length * l.length + 2 * l.length + 1 := by rw [Nat.add_mul, Nat.mul_add]; omega
    omega
theorem orsN_len {n : Nat} (hn : n ≤ 8) : ∀ f S, (orsN n f S).length ≤ 8 ^ f := by
  intro f
  induction f with
  | zero => intro S; simp [orsN]
  | succ f ih =>
    intro S
    rw [orsN, List.length_flatMap]
    have e : ((memN S n).map fun a => ((orsN n f (less S (2 ^ a))).map (a :: ·)).length) = (memN S n).map fun a => (orsN n f (less S (2 ^ a))).length := List.map_congr_left fun a _ => List.length_map ..
    rw [e]
    have h1 := sum_le (l := memN S n) (F := fun a => (orsN n f (less S (2 ^ a))).length) (B := 8 ^ f) fun b _ => ih _
    have h2 : (memN S n).length * 8 ^ f ≤ 8 * 8 ^ f := Nat.mul_le_mul_right _ (Nat.le_trans (memN_len S n) hn)
    rw [Nat.pow_succ, Nat.mul_comm (8 ^ f)]
    omega
theorem arT_bound {r : Nat → Nat → Bool} {n S : Nat} (hr : ∀ a, r a a = false) (hn : n ≤ 8) (hS : S < 2 ^ n) : 0 ≤ (arT r n S).1 ∧ (arT r n S).1 ≤ 64 ∧ (arT r n S).2 ≤ 16777216 := by
  obtain ⟨m, h1, h2, ⟨l, hl, h3⟩, h4⟩ := arT_law (r := r) hr hS
  have hlen := memN_len S n
  have hp := (orsN_perm _ S hS rfl l hl).length_eq
  have hr2 := revN_le r l
  have h8 : l.length * l.length ≤ 8 * 8 := Nat.mul_le_mul (by omega) (by omega)
  refine ⟨by rw [h1]; omega, by rw [h1]; omega, ?_⟩
  rw [h4]
  refine Nat.le_trans List.countP_le_length (Nat.le_trans (orsN_len hn _ S) ?_)
  exact Nat.le_trans (Nat.pow_le_pow_right (by decide) (by omega : (memN S n).length ≤ 8)) (by decide)
/-- the first best order -/
def bestF (r : Nat → Nat → Bool) (n : Nat) : Nat → Nat → List Nat
  | 0, _ => []
  | f + 1, S => match (memN S n).find? fun a => decide ((costN r n S a : Int) + (arT r n (less S (2 ^ a))).1 = (arT r n S).1) with
    | some a => a :: bestF r n f (less S (2 ^ a))
    | none => []
def bestO (r : Nat → Nat → Bool) (n : Nat) : List Nat := bestF r n n (2 ^ n - 1)
/-- someone is first in a best order -/
theorem bestF_step {r : Nat → Nat → Bool} {n S : Nat} (hr : ∀ a, r a a = false) (hS : S < 2 ^ n) (h0 : S ≠ 0) : ∃ a, (memN S n).find? (fun a => decide ((costN r n S a : Int) + (arT r n (less S (2 ^ a))).1 = (arT r n S).1)) = some a ∧ a ∈ memN S n ∧ (costN r n S a : Int) + (arT r n (less S (2 ^ a))).1 = (arT r n S).1 := by
  have hne : memN S n ≠ [] := fun e => h0 ((card_zero hS).1 (by rw [e]; rfl))
  obtain ⟨m, K, e, -, -, ⟨a, ha, h3⟩, -⟩ := fold_min (C := fun a => (costN r n S a : Int) + (arT r n (less S (2 ^ a))).1) (M := fun a => (arT r n (less S (2 ^ a))).2) hne fun a ha => by
    have := (arT_law (r := r) (S := less S (2 ^ a)) hr (less_lt hS))
    obtain ⟨k, hk, -⟩ := this
    simp only [hk]; omega
  have e2 : (arT r n S).1 = m := by rw [arT_eq hS h0, e]
  rcases q : (memN S n).find? (fun a => decide ((costN r n S a : Int) + (arT r n (less S (2 ^ a))).1 = (arT r n S).1)) with _ | b
  · rw [List.find?_eq_none] at q
    exact absurd (by rw [e2]; simpa using h3) (q a ha)
  · exact ⟨b, rfl, List.mem_of_find?_eq_some q, by have := List.find?_some q; simpa using this⟩
theorem bestF_law {r : Nat → Nat → Bool} {n : Nat} (hr : ∀ a, r a a = false) : ∀ f S, S < 2 ^ n → (memN S n).length = f → bestF r n f S ∈ orsN n f S ∧ (revN r (bestF r n f S) : Int) = (arT r n S).1 := by
  intro f
  induction f with
  | zero =>
    intro S hS hf
    have h0 : S = 0 := (card_zero hS).1 hf
    subst h0
    refine ⟨by simp [bestF, orsN], by rw [arT_zero]; rfl⟩
  | succ f ih =>
    intro S hS hf
    have h0 : S ≠ 0 := fun e => by rw [(card_zero hS).2 e] at hf; omega
    obtain ⟨a, h1, h2, h3⟩ := bestF_step hr hS h0
    have hc := card_less h2
    obtain ⟨i1, i2⟩ := ih (less S (2 ^ a)) (less_lt hS) (by omega)
    rw [bestF, h1]
    refine ⟨by rw [orsN]; exact List.mem_flatMap.2 ⟨a, h2, List.mem_map.2 ⟨_, i1, rfl⟩⟩, ?_⟩
    rw [revN, (orsN_perm f _ (less_lt hS) (by omega) _ i1).countP_eq, costN_less r n S a (hr a), ← h3, ← i2]
    simp
theorem bestO_law {r : Nat → Nat → Bool} {n : Nat} (hr : ∀ a, r a a = false) : bestO r n ∈ ordL n ∧ revN r (bestO r n) = fewN r n := by
  have h := bestF_law (r := r) hr n (2 ^ n - 1) (full_ltN n) (by rw [full_mem, List.length_range])
  rw [← ordL_ordS, (few_law hr).1] at h
  exact ⟨h.1, Int.ofNat.inj h.2⟩
theorem revN_map {r s : Nat → Nat → Bool} {f : Nat → Nat} {n : Nat} (hf : ∀ a b, a < n → b < n → s (f a) (f b) = r a b) : ∀ {l : List Nat}, (∀ x ∈ l, x < n) → revN s (l.map f) = revN r l := by
  intro l
  induction l with
  | nil => intro _; rfl
  | cons a l ih =>
    intro hl
    rw [List.map_cons, revN, revN, ih fun x hx => hl x (by simp [hx]), List.countP_map]
    congr 1
    refine List.countP_congr fun b hb => ?_
    simp only [Function.comp]
    rw [hf b a (hl b (by simp [hb])) (hl a (by simp))]
/-- other names change nothing -/
theorem few_rename {r s : Nat → Nat → Bool} {f : Nat → Nat} {n : Nat} (hr : ∀ a, r a a = false) (hs : ∀ a, s a a = false) (hf1 : ∀ a, a < n → f a < n) (hf2 : ∀ a b, a < n → b < n → f a = f b → a = b) (hf : ∀ a b, a < n → b < n → s (f a) (f b) = r a b) :
    fewN s n = fewN r n ∧ manyN s n = manyN r n := by
  obtain ⟨hm1, hm2⟩ := map_turn hf1 hf2
  obtain ⟨-, r2, ⟨l, hl, r3⟩, r4⟩ := few_law (r := r) (n := n) hr
  obtain ⟨-, s2, ⟨k, hk, s3⟩, s4⟩ := few_law (r := s) (n := n) hs
  have hrv : ∀ l ∈ ordL n, revN s (l.map f) = revN r l := fun l hl => revN_map hf (mem_ordL.1 hl).2.1
  have e1 : (ordL n).countP (fun l => revN s l == fewN s n) = (ordL n).countP fun l => revN r l == fewN s n := by
    rw [ord_turn hm1 hm2]
    exact List.countP_congr fun l hl => by rw [hrv l hl]
  have hpos := many_pos (r := s) (n := n) hs
  rw [s4, e1] at hpos
  obtain ⟨x, hx, hx2⟩ := List.countP_pos_iff.1 hpos
  have hx2 : revN r x = fewN s n := by simpa using hx2
  have a1 := r2 x hx
  have a2 := s2 _ (hm1 l hl)
  rw [hrv l hl] at a2
  have e : fewN s n = fewN r n := by omega
  exact ⟨e, by rw [s4, e1, e, r4]⟩
theorem revN_snoc (r : Nat → Nat → Bool) (x : Nat) : ∀ l : List Nat, revN r (l ++ [x]) = revN r l + l.countP fun b => r x b := by
  intro l
  induction l with
  | nil => rfl
  | cons a l ih =>
    rw [List.cons_append, revN, revN, ih, List.countP_append, List.countP_cons (a := a)]
    simp only [List.countP_cons, List.countP_nil]
    omega
/-- an order and its reverse share all games -/
theorem revN_back {r : Nat → Nat → Bool} {n : Nat} (hr : ∀ a b, a < n → b < n → a ≠ b → r a b = !r b a) : ∀ {l : List Nat}, l.Nodup → (∀ x ∈ l, x < n) → 2 * (revN r l.reverse + revN r l) + l.length = l.length * l.length := by
  intro l
  induction l with
  | nil => intro _ _; rfl
  | cons a l ih =>
    intro hn hl
    rw [List.nodup_cons] at hn
    have h1 := ih hn.2 fun x hx => hl x (by simp [hx])
    rw [List.reverse_cons, revN_snoc, revN, List.countP_reverse, List.length_cons]
    have h2 : (l.countP fun b => r a b) + (l.countP fun b => r b a) = l.length := by
      rw [List.length_eq_countP_add_countP (l := l) (fun b => r a b)]
      congr 1
      refine List.countP_congr fun b hb => ?_
      rw [hr a b (hl a (by simp)) (hl b (by simp [hb])) (fun e => by subst e; exact hn.1 hb)]
      simp
    have e : (l.length + 1) * (l.length + 1) = l.length * l.length + 2 * l.length + 1 := by rw [Nat.add_mul, Nat.mul_add]; omega
    omega
theorem revN_app {r : Nat → Nat → Bool} {m1 m2 : List Nat} (hp : m1.Perm m2) {d : Nat} (h : revN r m1 = revN r m2 + d) : ∀ p : List Nat, revN r (p ++ m1) = revN r (p ++ m2) + d := by
  intro p
  induction p with
  | nil => exact h
  | cons a p ih =>
    rw [List.cons_append, List.cons_append, revN, revN, ih, (hp.append_left p).countP_eq]
    omega
/-- a best order is a way -/
theorem best_is_way {r : Nat → Nat → Bool} {n : Nat} (hr : ∀ a b, a < n → b < n → a ≠ b → r a b = !r b a) {l : List Nat} (hl : l ∈ ordL n) (hm : ∀ k ∈ ordL n, revN r l ≤ revN r k) : way r l = true := by
  obtain ⟨hlen, hlt, hnd⟩ := mem_ordL.1 hl
  rw [way_iff]
  intro i hi
  have hsplit : l = l.take i ++ (l.getD i 0 :: l.getD (i + 1) 0 :: l.drop (i + 2)) := by
    have h1 : l.drop i = l.getD i 0 :: l.drop (i + 1) := by
      rw [List.drop_eq_getElem_cons (by omega), getD_nat (by omega)]
    have h2 : l.drop (i + 1) = l.getD (i + 1) 0 :: l.drop (i + 2) := by
      rw [List.drop_eq_getElem_cons (by omega), getD_nat (by omega)]
    conv => lhs; rw [← List.take_append_drop i l, h1, h2]
  generalize l.getD i 0 = a at *
  generalize l.getD (i + 1) 0 = b at *
  generalize l.take i = p at *
  generalize l.drop (i + 2) = q at *
  subst hsplit
  have hab : a ≠ b := fun e => by
    subst e
    have := (List.nodup_append.1 hnd).2.1
    simp at this
  have ha := hlt a (by simp)
  have hb := hlt b (by simp)
  rcases h : r a b with _ | _
  · exfalso
    have h2 : r b a = true := by have := hr a b ha hb hab; rw [h] at this; simpa using this.symm
    have hsw : (a :: b :: q).Perm (b :: a :: q) := List.Perm.swap b a q
    have e : revN r (a :: b :: q) = revN r (b :: a :: q) + 1 := by
      simp only [revN, List.countP_cons, h, h2]
      simp
      omega
    have h3 := revN_app hsw e p
    have h4 := hm (p ++ b :: a :: q) (mem_ordL.2 ⟨by rw [← hlen]; simp, fun x hx => hlt x (((hsw.append_left p).mem_iff).2 hx), ((hsw.append_left p).nodup_iff).1 hnd⟩)
    omega
  · rfl
end Go.Proofs.YtbkiedhaacapbaaGreat

