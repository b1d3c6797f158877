/- Texts put together: OrdP, WyP, ArP, SortI, Cond, Cover, KgF, StK, Clone. -/
import Derived.Test.YtbkiedhaacapbaaGreatMTop06
import Derived.Test.YtbkiedhaacapbaaGreatMTop07
import Derived.Test.YtbkiedhaacapbaaGreatMTop08
import Derived.Test.YtbkiedhaacapbaaGreatMTop01
import Derived.Test.YtbkiedhaacapbaaGreatMTop02
import Derived.Deep.RegionLaw
import Derived.Test.YtbkiedhaacapbaaGreatMTop05
namespace Go.Proofs.YtbkiedhaacapbaaGreat
open Go.RowKit Go.Sort
set_option maxRecDepth 100000
theorem perm_sum (F : Nat → Int) {l m : List Nat} (h : l.Perm m) : (l.map F).sum = (m.map F).sum := by
  induction h with
  | nil => rfl
  | cons x _ ih => simp only [List.map_cons, List.sum_cons, ih]
  | swap x y l => simp only [List.map_cons, List.sum_cons]; omega
  | trans _ _ h1 h2 => rw [h1, h2]
theorem perm_full : ∀ (q m : List Nat), q.Nodup → (∀ x ∈ q, x ∈ m) → m.length ≤ q.length → q.Perm m := by
  intro q
  induction q with
  | nil =>
    intro m _ _ h
    have : m = [] := List.eq_nil_of_length_eq_zero (by simpa using h)
    rw [this]
  | cons a q ih =>
    intro m hn hs hl
    have ha : a ∈ m := hs a (by simp)
    rw [List.nodup_cons] at hn
    have h1 : (m.erase a).length ≤ q.length := by
      rw [List.length_erase_of_mem ha]
      simp only [List.length_cons] at hl
      omega
    have h2 := ih (m.erase a) hn.2 (fun x hx => (List.mem_erase_of_ne (fun e => by subst e; exact hn.1 hx)).2 (hs x (by simp [hx]))) h1
    exact (h2.cons a).trans (List.perm_cons_erase ha).symm
theorem ord_perm {n : Nat} {q : List Nat} (hq : q ∈ ordL n) : q.Perm (List.range n) := by
  obtain ⟨h1, h2, h3⟩ := mem_ordL.1 hq
  exact perm_full q _ h3 (fun x hx => List.mem_range.2 (h2 x hx)) (by rw [List.length_range, h1]; exact Nat.le_refl _)
theorem ord_sum {n : Nat} {q : List Nat} (hq : q ∈ ordL n) (F : Nat → Int) : sumN F n = sumN (fun i => F (q.getD i 0)) n := by
  obtain ⟨h1, h2, h3⟩ := mem_ordL.1 hq
  have hperm : q.Perm (List.range n) := ord_perm hq
  rw [← map_sumN, ← perm_sum F hperm, list_sumN, List.length_map, h1]
  refine sumN_congr fun i hi => ?_
  have : i < q.length := by omega
  simp [List.getD_eq_getElem?_getD, this]
theorem ord_at {n : Nat} {q : List Nat} (hq : q ∈ ordL n) : (∀ i, i < n → q.getD i 0 < n) ∧ (∀ i k, i < n → k < n → q.getD i 0 = q.getD k 0 → i = k) ∧ ∀ b, b < n → ∃ k, k < n ∧ q.getD k 0 = b := by
  obtain ⟨h1, h2, h3⟩ := mem_ordL.1 hq
  refine ⟨fun i hi => h2 _ (by rw [getD_nat (by omega)]; exact List.getElem_mem _), fun i k hi hk e => ?_, fun b hb => ?_⟩
  · rw [getD_nat (by omega), getD_nat (by omega)] at e
    exact (List.getElem_inj h3).1 e
  · have : b ∈ q := (ord_perm hq).mem_iff.2 (List.mem_range.2 hb)
    obtain ⟨k, hk, rfl⟩ := List.getElem_of_mem this
    exact ⟨k, by omega, getD_nat hk⟩
end Go.Proofs.YtbkiedhaacapbaaGreat

namespace Go.Proofs.YtbkiedhaacapbaaGreat
open Go.RowKit Go.Sort
set_option maxRecDepth 100000
theorem len_leG {α : Type} [DecidableEq α] : ∀ {q m : List α}, q.Nodup → (∀ x ∈ q, x ∈ m) → q.length ≤ m.length := by
  intro q
  induction q with
  | nil => intro m _ _; simp
  | cons a q ih =>
    intro m hn hs
    have ha : a ∈ m := hs a (by simp)
    rw [List.nodup_cons] at hn
    have := ih (m := m.erase a) hn.2 fun x hx => (List.mem_erase_of_ne (fun e => by subst e; exact hn.1 hx)).2 (hs x (by simp [hx]))
    rw [List.length_erase_of_mem ha] at this
    have := List.length_pos_of_mem ha
    simp only [List.length_cons]
    omega
theorem perm_fullG {α : Type} [DecidableEq α] : ∀ {q m : List α}, q.Nodup → (∀ x ∈ q, x ∈ m) → m.length ≤ q.length → q.Perm m := by
  intro q
  induction q with
  | nil =>
    intro m _ _ h
    have : m = [] := List.eq_nil_of_length_eq_zero (by simpa using h)
    rw [this]
  | cons a q ih =>
    intro m hn hs hl
    have ha : a ∈ m := hs a (by simp)
    rw [List.nodup_cons] at hn
    have h1 : (m.erase a).length ≤ q.length := by
      rw [List.length_erase_of_mem ha]
      simp only [List.length_cons] at hl
      omega
    have h2 := ih (m := m.erase a) hn.2 (fun x hx => (List.mem_erase_of_ne (fun e => by subst e; exact hn.1 hx)).2 (hs x (by simp [hx]))) h1
    exact (h2.cons a).trans (List.perm_cons_erase ha).symm
/-- the ways from a through all of S whose last player is in Q -/
def wyQ (r : Nat → Nat → Bool) (Q : Nat → Bool) (n : Nat) : Nat → Nat → Nat → Nat
  | 0, _, a => if Q a then 1 else 0
  | f + 1, S, a => if S = 0 then (if Q a then 1 else 0) else (((List.range n).filter fun b => S.testBit b && r a b).map fun b => wyQ r Q n f (less S (2 ^ b)) b).sum
theorem waysN_wyQ (xs : List Int) (n : Nat) : ∀ f S a, waysN xs n f S a = wyQ (bt xs) (fun _ => true) n f S a := by
  intro f
  induction f with
  | zero => intro S a; rfl
  | succ f ih =>
    intro S a
    rw [waysN, wyQ]
    split
    · rfl
    · have e : memN (S &&& winsN xs a) n = (List.range n).filter fun b => S.testBit b && bt xs a b := by
        unfold memN
        refine List.filter_congr fun x _ => ?_
        rw [Nat.testBit_and]
      rw [e]
      congr 1
      exact List.map_congr_left fun b _ => ih _ _
/-- each beats the next one -/
def chn (r : Nat → Nat → Bool) : Nat → List Nat → Bool
  | _, [] => true
  | a, b :: l => r a b && chn r b l
def way (r : Nat → Nat → Bool) : List Nat → Bool
  | [] => true
  | a :: l => chn r a l
theorem chn_snoc (r : Nat → Nat → Bool) (b : Nat) : ∀ (l : List Nat) (a : Nat), chn r a (l ++ [b]) = (chn r a l && r (lastN (a :: l)) b) := by
  intro l
  induction l with
  | nil => intro a; simp [chn, lastN]
  | cons x l ih =>
    intro a
    rw [List.cons_append, chn, chn, ih, Bool.and_assoc]
    have : lastN (a :: x :: l) = lastN (x :: l) := by simp [lastN]
    rw [this]
theorem way_snoc (r : Nat → Nat → Bool) (b : Nat) {l : List Nat} (h : l ≠ []) : way r (l ++ [b]) = (way r l && r (lastN l) b) := by
  cases l with
  | nil => exact absurd rfl h
  | cons a l => exact chn_snoc r b l a
theorem lastN_snoc' (l : List Nat) (b : Nat) : lastN (l ++ [b]) = b := by simp [lastN]
theorem way_iff (r : Nat → Nat → Bool) : ∀ l : List Nat, way r l = true ↔ ∀ i, i + 1 < l.length → r (l.getD i 0) (l.getD (i + 1) 0) = true := by
  intro l
  cases l with
  | nil => simp [way]
  | cons a l =>
    show chn r a l = true ↔ _
    induction l generalizing a with
    | nil => simp [chn]
    | cons b l ih =>
      rw [chn, Bool.and_eq_true, ih]
      constructor
      · rintro ⟨h1, h2⟩ i hi
        cases i with
        | zero => exact h1
        | succ i => exact h2 i (by simpa using hi)
      · intro h
        exact ⟨h 0 (by simp), fun i hi => h (i + 1) (by simpa using hi)⟩
theorem countP_flatMap' {α β : Type} (p : β → Bool) (f : α → List β) : ∀ l : List α, (l.flatMap f).countP p = (l.map fun x => (f x).countP p).sum := by
  intro l
  induction l with
  | nil => rfl
  | cons x l ih => rw [List.flatMap_cons, List.countP_append, List.map_cons, List.sum_cons, ih]
theorem sum_filter_zero {l : List Nat} {p : Nat → Bool} {F : Nat → Nat} (h : ∀ x ∈ l, p x = false → F x = 0) : (l.map F).sum = ((l.filter p).map F).sum := by
  induction l with
  | nil => rfl
  | cons x l ih =>
    have h1 := ih fun y hy => h y (by simp [hy])
    rw [List.map_cons, List.sum_cons, List.filter_cons, h1]
    rcases q : p x with _ | _
    · rw [h x (by simp) q]; simp
    · simp
theorem setW_less_snoc {n : Nat} {pre : List Nat} {b : Nat} : less (2 ^ n - 1) (setW (pre ++ [b])) = less (less (2 ^ n - 1) (setW pre)) (2 ^ b) := Nat.eq_of_testBit_eq fun j => by
  rw [testBit_less, testBit_less, testBit_less, setW_snoc, Nat.testBit_or]
  cases (2 ^ n - 1).testBit j <;> cases (setW pre).testBit j <;> cases (2 ^ b).testBit j <;> rfl
/-- the number of ways is a count of orders -/
theorem count_from {r : Nat → Nat → Bool} {Q : Nat → Bool} {n : Nat} : ∀ (m : Nat) (pre : List Nat), pre ≠ [] → pre.Nodup → (∀ x ∈ pre, x < n) → pre.length + m = n →
    (ordFrom n m pre).countP (fun l => way r l && Q (lastN l)) = if way r pre = true then wyQ r Q n m (less (2 ^ n - 1) (setW pre)) (lastN pre) else 0 := by
  intro m
  induction m with
  | zero =>
    intro pre hne hnd hlt hl
    rw [ordFrom, List.countP_cons, List.countP_nil, wyQ, Nat.zero_add]
    cases way r pre <;> simp
  | succ m ih =>
    intro pre hne hnd hlt hl
    rw [ordFrom, countP_flatMap']
    have hS : less (2 ^ n - 1) (setW pre) ≠ 0 := by
      intro h0
      have hall : ∀ b, b < n → b ∈ pre := fun b hb => by
        have := congrArg (fun z => z.testBit b) h0
        simp only [testBit_less, Nat.zero_testBit, testBit_full, testBit_setW, decide_eq_true hb, Bool.true_and, Bool.not_eq_eq_eq_not, Bool.not_false] at this
        simpa using this
      have := len_leG (q := List.range n) (m := pre) List.nodup_range fun x hx => hall x (List.mem_range.1 hx)
      rw [List.length_range] at this
      omega
    have hstep : ∀ b ∈ (List.range n).filter fun b => !pre.contains b, (ordFrom n m (pre ++ [b])).countP (fun l => way r l && Q (lastN l)) = if (way r pre && r (lastN pre) b) = true then wyQ r Q n m (less (less (2 ^ n - 1) (setW pre)) (2 ^ b)) b else 0 := by
      intro b hb
      rw [List.mem_filter, List.mem_range] at hb
      have hb2 : b ∉ pre := by simpa using hb.2
      rw [ih (pre ++ [b]) (by simp) (List.nodup_append.2 ⟨hnd, by simp, fun x hx y hy => by simp at hy; subst hy; intro e; subst e; exact hb2 hx⟩) (fun x hx => by
        rcases List.mem_append.1 hx with h | h
        · exact hlt x h
        · simp at h; subst h; exact hb.1) (by rw [List.length_append, List.length_singleton]; omega), way_snoc r b hne, setW_less_snoc, lastN_snoc']
    rw [List.map_congr_left hstep]
    rcases q : way r pre with _ | _
    · rw [if_neg (by decide)]
      have : ∀ l : List Nat, (l.map fun b => if (false && r (lastN pre) b) = true then wyQ r Q n m (less (less (2 ^ n - 1) (setW pre)) (2 ^ b)) b else 0).sum = 0 := by
        intro l
        induction l with
        | nil => rfl
        | cons x l ih => rw [List.map_cons, List.sum_cons, ih]; rfl
      exact this _
    · rw [if_pos rfl, wyQ, if_neg hS]
      rw [sum_filter_zero (p := fun b => r (lastN pre) b) (fun x _ hx => by rw [hx]; rfl), List.filter_filter]
      congr 1
      have hf : ((List.range n).filter fun b => r (lastN pre) b && !pre.contains b) = (List.range n).filter fun b => (less (2 ^ n - 1) (setW pre)).testBit b && r (lastN pre) b := by
        refine List.filter_congr fun b hb => ?_
        rw [testBit_less, testBit_full, decide_eq_true (List.mem_range.1 hb), testBit_setW, Bool.true_and, Bool.and_comm]
      rw [hf]
      refine List.map_congr_left fun b hb => ?_
      rw [List.mem_filter, Bool.and_eq_true] at hb
      rw [hb.2.2]; rfl
/-- how many orders are ways that end in Q -/
def cntQ (r : Nat → Nat → Bool) (Q : Nat → Bool) (n : Nat) : Nat := (ordL n).countP fun l => way r l && Q (lastN l)
theorem ordL_heads {n : Nat} (h1 : 1 ≤ n) : ordL n = (List.range n).flatMap fun a => ordFrom n (n - 1) [a] := by
  obtain ⟨m, rfl⟩ : ∃ m, n = m + 1 := ⟨n - 1, by omega⟩
  unfold ordL
  rw [ordFrom]
  have : ((List.range (m + 1)).filter fun b => !([] : List Nat).contains b) = List.range (m + 1) := by
    rw [List.filter_eq_self]; intro a _; rfl
  rw [this]
  rfl
theorem setW_one (a : Nat) : setW [a] = 2 ^ a := by simp [setW]
theorem cnt_sum {r : Nat → Nat → Bool} {Q : Nat → Bool} {n : Nat} (h1 : 1 ≤ n) : cntQ r Q n = ((List.range n).map fun a => wyQ r Q n (n - 1) (less (2 ^ n - 1) (2 ^ a)) a).sum := by
  unfold cntQ
  rw [ordL_heads h1, countP_flatMap']
  congr 1
  refine List.map_congr_left fun a ha => ?_
  have ha := List.mem_range.1 ha
  rw [count_from (n - 1) [a] (by simp) (by simp) (fun x hx => by simp at hx; omega) (by simp; omega), if_pos (show way r [a] = true from rfl), setW_one]
  rfl
/-- more steps than players change nothing -/
theorem wyQ_fuel {r : Nat → Nat → Bool} {Q : Nat → Bool} {n : Nat} : ∀ f g S a, S < 2 ^ n → (memN S n).length ≤ f → (memN S n).length ≤ g → wyQ r Q n f S a = wyQ r Q n g S a := by
  intro f
  induction f with
  | zero =>
    intro g S a hS hf hg
    have h0 : S = 0 := (card_zero hS).1 (by omega)
    subst h0
    cases g with
    | zero => rfl
    | succ g => rw [wyQ, wyQ, if_pos rfl]
  | succ f ih =>
    intro g S a hS hf hg
    cases g with
    | zero =>
      have h0 : S = 0 := (card_zero hS).1 (by omega)
      subst h0
      rw [wyQ, wyQ, if_pos rfl]
    | succ g =>
      rw [wyQ, wyQ]
      split
      · rfl
      · congr 1
        refine List.map_congr_left fun b hb => ?_
        rw [List.mem_filter, List.mem_range, Bool.and_eq_true] at hb
        have := card_less (mem_memN.2 ⟨hb.1, hb.2.1⟩)
        exact ih g _ b (less_lt hS) (by omega) (by omega)
theorem ordFrom_nodup {n : Nat} : ∀ (m : Nat) (pre : List Nat), pre.Nodup → (ordFrom n m pre).Nodup := by
  intro m
  induction m with
  | zero => intro pre _; simp [ordFrom]
  | succ m ih =>
    intro pre hp
    rw [ordFrom]
    have hl : ((List.range n).filter fun b => !pre.contains b).Nodup := List.Pairwise.filter _ List.nodup_range
    have hm : ∀ b ∈ (List.range n).filter fun b => !pre.contains b, (pre ++ [b]).Nodup := fun b hb => by
      rw [List.mem_filter] at hb
      have hb2 : b ∉ pre := by simpa using hb.2
      exact List.nodup_append.2 ⟨hp, by simp, fun x hx y hy => by simp at hy; subst hy; intro e; subst e; exact hb2 hx⟩
    generalize ((List.range n).filter fun b => !pre.contains b) = L at *
    induction L with
    | nil => simp
    | cons b L ihL =>
      rw [List.flatMap_cons]
      rw [List.nodup_cons] at hl
      refine List.nodup_append.2 ⟨ih _ (hm b (by simp)), ihL hl.2 fun c hc => hm c (by simp [hc]), fun x hx y hy => ?_⟩
      rw [List.mem_flatMap] at hy
      obtain ⟨c, hc, hy⟩ := hy
      obtain ⟨s1, e1, -⟩ := (mem_ordFrom (hm b (by simp))).1 hx
      obtain ⟨s2, e2, -⟩ := (mem_ordFrom (hm c (by simp [hc]))).1 hy
      intro e
      rw [e1, e2, List.append_assoc, List.append_assoc] at e
      have := List.append_cancel_left e
      simp at this
      rw [this.1] at hl
      exact hl.1 hc
theorem ordL_nodup (n : Nat) : (ordL n).Nodup := ordFrom_nodup n [] (by simp)
/-- a turn of the orders that keeps them and loses none counts alike -/
theorem ord_turn {n : Nat} {g : List Nat → List Nat} (hg : ∀ l ∈ ordL n, g l ∈ ordL n) (hi : ∀ l ∈ ordL n, ∀ m ∈ ordL n, g l = g m → l = m) (p : List Nat → Bool) : (ordL n).countP p = (ordL n).countP fun l => p (g l) := by
  have hnd : ((ordL n).map g).Nodup := by
    have := ordL_nodup n
    generalize ordL n = L at *
    have key : ∀ M : List (List Nat), M.Nodup → (∀ l ∈ M, l ∈ L) → (M.map g).Nodup := by
      intro M
      induction M with
      | nil => intro _ _; simp
      | cons x M ih =>
        intro h1 h2
        rw [List.nodup_cons] at h1
        rw [List.map_cons, List.nodup_cons]
        refine ⟨fun hx => ?_, ih h1.2 fun l hl => h2 l (by simp [hl])⟩
        obtain ⟨y, hy, e⟩ := List.mem_map.1 hx
        rw [hi y (h2 y (by simp [hy])) x (h2 x (by simp)) e] at hy
        exact h1.1 hy
    exact key L this fun l h => h
  have hp : ((ordL n).map g).Perm (ordL n) := perm_fullG hnd (fun x hx => by
    obtain ⟨y, hy, rfl⟩ := List.mem_map.1 hx
    exact hg y hy) (by simp)
  rw [← hp.countP_eq, List.countP_map]
  rfl
theorem way_map {r s : Nat → Nat → Bool} {f : Nat → Nat} {n : Nat} (hf : ∀ a b, a < n → b < n → s (f a) (f b) = r a b) : ∀ {l : List Nat}, (∀ x ∈ l, x < n) → way s (l.map f) = way r l := by
  intro l
  cases l with
  | nil => intro _; rfl
  | cons a l =>
    show (∀ x ∈ a :: l, x < n) → chn s (f a) (l.map f) = chn r a l
    induction l generalizing a with
    | nil => intro _; rfl
    | cons b l ih =>
      intro h
      rw [List.map_cons, chn, chn, hf a b (h a (by simp)) (h b (by simp)), ih b fun x hx => h x (by simp [hx])]
theorem lastN_map {f : Nat → Nat} {l : List Nat} (h : l ≠ []) : lastN (l.map f) = f (lastN l) := by
  have h0 : 0 < l.length := List.length_pos_iff.2 h
  unfold lastN
  rw [List.length_map]
  simp [List.getD_eq_getElem?_getD, show l.length - 1 < l.length by omega]
theorem map_turn {n : Nat} {f : Nat → Nat} (hf1 : ∀ a, a < n → f a < n) (hf2 : ∀ a b, a < n → b < n → f a = f b → a = b) : (∀ l ∈ ordL n, l.map f ∈ ordL n) ∧ ∀ l ∈ ordL n, ∀ m ∈ ordL n, l.map f = m.map f → l = m := by
  constructor
  · intro l hl
    obtain ⟨h1, h2, h3⟩ := mem_ordL.1 hl
    refine mem_ordL.2 ⟨by simp [h1], fun x hx => ?_, ?_⟩
    · obtain ⟨y, hy, rfl⟩ := List.mem_map.1 hx
      exact hf1 y (h2 y hy)
    · rw [List.Nodup, List.pairwise_map]
      exact h3.imp_of_mem fun ha hb hne e => hne (hf2 _ _ (h2 _ ha) (h2 _ hb) e)
  · intro l hl m hm e
    obtain ⟨h1, h2, -⟩ := mem_ordL.1 hl
    obtain ⟨k1, k2, -⟩ := mem_ordL.1 hm
    refine List.ext_getElem (by omega) fun i hi hi2 => ?_
    have := congrArg (fun z => z[i]?) e
    simp only [List.getElem?_map, List.getElem?_eq_getElem hi, List.getElem?_eq_getElem hi2, Option.map_some, Option.some.injEq] at this
    exact hf2 _ _ (h2 _ (List.getElem_mem hi)) (k2 _ (List.getElem_mem hi2)) this
/-- the number of ways under other names -/
theorem cnt_rename {r s : Nat → Nat → Bool} {f : Nat → Nat} {n : Nat} (hf1 : ∀ a, a < n → f a < n) (hf2 : ∀ a b, a < n → b < n → f a = f b → a = b) (hf : ∀ a b, a < n → b < n → s (f a) (f b) = r a b) : cntQ s (fun _ => true) n = cntQ r (fun _ => true) n := by
  obtain ⟨t1, t2⟩ := map_turn hf1 hf2
  unfold cntQ
  rw [ord_turn t1 t2]
  refine List.countP_congr fun l hl => ?_
  rw [way_map hf (mem_ordL.1 hl).2.1]
theorem chn_reverse {r s : Nat → Nat → Bool} (h : ∀ a b, s a b = r b a) (l : List Nat) : way s l.reverse = way r l := by
  rw [Bool.eq_iff_iff, way_iff, way_iff, List.length_reverse]
  have hg : ∀ i, i < l.length → l.reverse.getD i 0 = l.getD (l.length - 1 - i) 0 := fun i hi => by
    simp [List.getD_eq_getElem?_getD, List.getElem?_reverse hi]
  constructor
  · intro hw i hi
    have := hw (l.length - 1 - (i + 1)) (by omega)
    rw [hg _ (by omega), hg _ (by omega), h] at this
    rwa [show l.length - 1 - (l.length - 1 - (i + 1) + 1) = i by omega, show l.length - 1 - (l.length - 1 - (i + 1)) = i + 1 by omega] at this
  · intro hw i hi
    rw [hg _ (by omega), hg _ (by omega), h]
    have := hw (l.length - 1 - (i + 1)) (by omega)
    rwa [show l.length - 1 - (i + 1) + 1 = l.length - 1 - i by omega] at this
theorem rev_turn (n : Nat) : (∀ l ∈ ordL n, l.reverse ∈ ordL n) ∧ ∀ l ∈ ordL n, ∀ m ∈ ordL n, l.reverse = m.reverse → l = m := by
  constructor
  · intro l hl
    obtain ⟨h1, h2, h3⟩ := mem_ordL.1 hl
    exact mem_ordL.2 ⟨by simp [h1], fun x hx => h2 x (by simpa using hx), (List.reverse_perm l).symm.nodup h3⟩
  · intro l _ m _ e
    exact List.reverse_inj.1 e
theorem way_congr {r s : Nat → Nat → Bool} {n : Nat} (h : ∀ a b, a < n → b < n → s a b = r a b) {l : List Nat} (hl : ∀ x ∈ l, x < n) : way s l = way r l := by
  have := way_map (f := fun x => x) (r := r) (s := s) h hl
  rwa [List.map_id'] at this
/-- the number of ways of the reversed tour -/
theorem cnt_reverse {r s : Nat → Nat → Bool} {n : Nat} (h : ∀ a b, a < n → b < n → s a b = r b a) : cntQ s (fun _ => true) n = cntQ r (fun _ => true) n := by
  unfold cntQ
  rw [ord_turn (rev_turn n).1 (rev_turn n).2]
  refine List.countP_congr fun l hl => ?_
  have hm := (mem_ordL.1 ((rev_turn n).1 l hl)).2.1
  rw [← way_congr (s := s) (r := fun a b => s a b) (fun _ _ _ _ => rfl) hm, way_congr (r := fun a b => r b a) h hm, chn_reverse (r := r) (s := fun a b => r b a) (fun _ _ => rfl)]
/-- closed orders: each beats the next one, the last one the first -/
def clo2 (r : Nat → Nat → Bool) (l : List Nat) : Bool := way r l && r (lastN l) (l.headD 0)
def rot1 : List Nat → List Nat
  | [] => []
  | a :: l => l ++ [a]
theorem clo_rot (r : Nat → Nat → Bool) {l : List Nat} (h : l ≠ []) : clo2 r (rot1 l) = clo2 r l := by
  cases l with
  | nil => exact absurd rfl h
  | cons a l =>
    cases l with
    | nil => rfl
    | cons b l =>
      show (way r ((b :: l) ++ [a]) && r (lastN ((b :: l) ++ [a])) b) = (chn r a (b :: l) && r (lastN (a :: b :: l)) a)
      rw [way_snoc r a (by simp), lastN_snoc', chn, show lastN (a :: b :: l) = lastN (b :: l) by simp [lastN]]
      show (chn r b l && r (lastN (b :: l)) a && r a b) = (r a b && chn r b l && r (lastN (b :: l)) a)
      cases chn r b l <;> cases r (lastN (b :: l)) a <;> cases r a b <;> rfl
theorem rot_turn (n : Nat) : (∀ l ∈ ordL n, rot1 l ∈ ordL n) ∧ ∀ l ∈ ordL n, ∀ m ∈ ordL n, rot1 l = rot1 m → l = m := by
  constructor
  · intro l hl
    obtain ⟨h1, h2, h3⟩ := mem_ordL.1 hl
    cases l with
    | nil => exact hl
    | cons a l =>
      show l ++ [a] ∈ ordL n
      refine mem_ordL.2 ⟨by simpa using h1, (fun x hx => h2 x (by
        rcases List.mem_append.1 hx with h | h
        · exact List.mem_cons_of_mem _ h
        · simp at h; subst h; exact List.mem_cons_self)), ?_⟩
      rw [List.nodup_cons] at h3
      exact List.nodup_append.2 ⟨h3.2, by simp, fun x hx y hy => by simp at hy; subst hy; intro e; subst e; exact h3.1 hx⟩
  · intro l hl m hm e
    obtain ⟨h1, -, -⟩ := mem_ordL.1 hl
    obtain ⟨k1, -, -⟩ := mem_ordL.1 hm
    cases l with
    | nil => cases m with
      | nil => rfl
      | cons b m => simp at h1 k1; omega
    | cons a l => cases m with
      | nil => simp at h1 k1; omega
      | cons b m =>
        have := List.append_inj' (show l ++ [a] = m ++ [b] from e) rfl
        simp at this
        rw [this.1, this.2]
/-- closed orders with s at the place i -/
def cntAt (r : Nat → Nat → Bool) (n i s : Nat) : Nat := (ordL n).countP fun l => clo2 r l && decide (l.getD i 0 = s)
def cntC (r : Nat → Nat → Bool) (n : Nat) : Nat := (ordL n).countP fun l => clo2 r l
theorem cntAt_step {r : Nat → Nat → Bool} {n i s : Nat} (hi : i + 1 < n) : cntAt r n i s = cntAt r n (i + 1) s := by
  unfold cntAt
  rw [ord_turn (rot_turn n).1 (rot_turn n).2]
  refine List.countP_congr fun l hl => ?_
  have h1 := (mem_ordL.1 hl).1
  cases l with
  | nil => simp at h1; omega
  | cons a l =>
    rw [clo_rot r (by simp)]
    have e : (rot1 (a :: l)).getD i 0 = (a :: l).getD (i + 1) 0 := by
      show (l ++ [a]).getD i 0 = l.getD i 0
      simp [List.getD_eq_getElem?_getD, List.getElem?_append_left (show i < l.length by simp at h1; omega)]
    rw [e]
theorem cntAt_zero {r : Nat → Nat → Bool} {n s : Nat} : ∀ i, i < n → cntAt r n i s = cntAt r n 0 s := by
  intro i
  induction i with
  | zero => intro _; rfl
  | succ i ih => intro hi; rw [← cntAt_step hi, ih (by omega)]
def sumW (f : Nat → Nat) : Nat → Nat
  | 0 => 0
  | k + 1 => sumW f k + f k
theorem sumW_congr {f g : Nat → Nat} : ∀ {n : Nat}, (∀ k, k < n → f k = g k) → sumW f n = sumW g n := by
  intro n
  induction n with
  | zero => intro _; rfl
  | succ n ih => intro h; rw [sumW, sumW, ih fun k hk => h k (by omega), h n (by omega)]
theorem sumW_add (f g : Nat → Nat) : ∀ n, sumW (fun i => f i + g i) n = sumW f n + sumW g n := by
  intro n
  induction n with
  | zero => rfl
  | succ n ih => simp only [sumW, ih]; omega
theorem sumW_const (c : Nat) : ∀ n, sumW (fun _ => c) n = n * c := by
  intro n
  induction n with
  | zero => simp [sumW]
  | succ n ih => rw [sumW, ih, Nat.succ_mul]
theorem sumW_one {f : Nat → Nat} {i0 : Nat} : ∀ n, i0 < n → (∀ i, i < n → f i = if i = i0 then 1 else 0) → sumW f n = 1 := by
  have h0 : ∀ n, n ≤ i0 → (∀ i, i < n → f i = if i = i0 then 1 else 0) → sumW f n = 0 := by
    intro n
    induction n with
    | zero => intro _ _; rfl
    | succ n ih => intro h1 h2; rw [sumW, ih (by omega) fun i hi => h2 i (by omega), h2 n (by omega), if_neg (by omega)]
  intro n
  induction n with
  | zero => intro h; omega
  | succ n ih =>
    intro h1 h2
    rw [sumW, h2 n (by omega)]
    by_cases e : n = i0
    · rw [h0 n (by omega) fun i hi => h2 i (by omega), if_pos e]
    · rw [ih (by omega) fun i hi => h2 i (by omega), if_neg e]
theorem sum_count {p : List Nat → Bool} {q : Nat → List Nat → Bool} {n : Nat} : ∀ M : List (List Nat), (∀ l ∈ M, ∃ i0, i0 < n ∧ ∀ i, i < n → (q i l = true ↔ i = i0)) → sumW (fun i => M.countP fun l => p l && q i l) n = M.countP p := by
  intro M
  induction M with
  | nil => intro _; rw [List.countP_nil, sumW_congr (g := fun _ => 0) fun k _ => List.countP_nil, sumW_const]; rfl
  | cons l M ih =>
    intro h
    rw [sumW_congr (g := fun i => (M.countP fun l => p l && q i l) + if (p l && q i l) = true then 1 else 0) fun k _ => List.countP_cons, sumW_add, ih fun x hx => h x (by simp [hx]), List.countP_cons]
    congr 1
    rcases hpl : p l with _ | _
    · have e : (fun i => if (false && q i l) = true then 1 else 0) = fun _ : Nat => (0 : Nat) := by funext i; rfl
      rw [e, sumW_const]; rfl
    · obtain ⟨i0, hi0, hq⟩ := h l (by simp)
      rw [if_pos rfl]
      refine sumW_one n hi0 fun i hi => ?_
      rw [Bool.true_and]
      by_cases e : i = i0
      · rw [if_pos e, if_pos ((hq i hi).2 e)]
      · rw [if_neg e, if_neg fun hh => e ((hq i hi).1 hh)]
/-- n times the closed orders from s are all closed orders -/
theorem cntC_at {r : Nat → Nat → Bool} {n s : Nat} (hs : s < n) : n * cntAt r n 0 s = cntC r n := by
  rw [← sumW_const, ← sumW_congr (f := fun i => cntAt r n i s) fun k hk => cntAt_zero k hk]
  refine sum_count (ordL n) fun l hl => ?_
  obtain ⟨-, -, h3⟩ := mem_ordL.1 hl
  obtain ⟨o1, o2, o3⟩ := ord_at hl
  obtain ⟨i0, h0, e0⟩ := o3 s hs
  refine ⟨i0, h0, fun i hi => ?_⟩
  rw [decide_eq_true_eq]
  constructor
  · intro e; exact o2 i i0 hi h0 (by rw [e, e0])
  · intro e; subst e; exact e0
theorem headD_getD (l : List Nat) : l.headD 0 = l.getD 0 0 := by cases l <;> rfl
theorem clo_map {r s : Nat → Nat → Bool} {f : Nat → Nat} {n : Nat} (hf : ∀ a b, a < n → b < n → s (f a) (f b) = r a b) {l : List Nat} (hne : l ≠ []) (hl : ∀ x ∈ l, x < n) : clo2 s (l.map f) = clo2 r l := by
  unfold clo2
  have h0 : 0 < l.length := List.length_pos_iff.2 hne
  have hh : (l.map f).headD 0 = f (l.headD 0) := by cases l with
    | nil => exact absurd rfl hne
    | cons a l => rfl
  rw [way_map hf hl, lastN_map hne, hh, hf _ _ (hl _ (by unfold lastN; rw [getD_nat (by omega)]; exact List.getElem_mem _)) (hl _ (by rw [headD_getD, getD_nat h0]; exact List.getElem_mem _))]
theorem ord_ne {n : Nat} (h1 : 1 ≤ n) {l : List Nat} (hl : l ∈ ordL n) : l ≠ [] := fun e => by
  have := (mem_ordL.1 hl).1
  rw [e] at this
  simp at this
  omega
theorem cntC_rename {r s : Nat → Nat → Bool} {f : Nat → Nat} {n : Nat} (h1 : 1 ≤ n) (hf1 : ∀ a, a < n → f a < n) (hf2 : ∀ a b, a < n → b < n → f a = f b → a = b) (hf : ∀ a b, a < n → b < n → s (f a) (f b) = r a b) : cntC s n = cntC r n := by
  obtain ⟨t1, t2⟩ := map_turn hf1 hf2
  unfold cntC
  rw [ord_turn t1 t2]
  refine List.countP_congr fun l hl => ?_
  rw [clo_map hf (ord_ne h1 hl) (mem_ordL.1 hl).2.1]
theorem cntC_reverse {r s : Nat → Nat → Bool} {n : Nat} (h1 : 1 ≤ n) (h : ∀ a b, a < n → b < n → s a b = r b a) : cntC s n = cntC r n := by
  unfold cntC
  rw [ord_turn (rev_turn n).1 (rev_turn n).2]
  refine List.countP_congr fun l hl => ?_
  have hm := (mem_ordL.1 hl).2.1
  have hm2 := (mem_ordL.1 ((rev_turn n).1 l hl)).2.1
  have hne := ord_ne h1 hl
  have h0 : 0 < l.length := List.length_pos_iff.2 hne
  unfold clo2
  rw [way_congr (r := fun a b => r b a) h hm2, chn_reverse (r := r) (s := fun a b => r b a) (fun _ _ => rfl)]
  have e1 : lastN l.reverse = l.headD 0 := by
    unfold lastN
    rw [List.length_reverse, headD_getD]
    simp [List.getD_eq_getElem?_getD, List.getElem?_reverse (show l.length - 1 < l.length by omega)]
    try (congr 2; omega)
  have e2 : l.reverse.headD 0 = lastN l := by
    unfold lastN
    rw [headD_getD]
    simp [List.getD_eq_getElem?_getD, List.getElem?_reverse h0]
  rw [e1, e2, h _ _ (hm _ (by rw [headD_getD, getD_nat h0]; exact List.getElem_mem _)) (hm _ (by unfold lastN; rw [getD_nat (by omega)]; exact List.getElem_mem _))]
/-- the program's count of closed ways -/
theorem cntAt_count {r : Nat → Nat → Bool} {n s : Nat} (hs : s < n) : cntAt r n 0 s = wyQ r (fun a => r a s) n (n - 1) (less (2 ^ n - 1) (2 ^ s)) s := by
  have h1 : 1 ≤ n := by omega
  have hc := count_from (r := r) (Q := fun a => r a s) (n - 1) [s] (by simp) (by simp) (fun x hx => by simp at hx; subst hx; exact hs) (by simp; omega)
  rw [if_pos (show way r [s] = true from rfl), setW_one] at hc
  have e : lastN [s] = s := rfl
  rw [e] at hc
  rw [← hc]
  unfold cntAt
  rw [ordL_heads h1, countP_flatMap']
  have hz : ∀ a ∈ List.range n, ((ordFrom n (n - 1) [a]).countP fun l => clo2 r l && decide (l.getD 0 0 = s)) = if a = s then (ordFrom n (n - 1) [s]).countP fun l => way r l && r (lastN l) s else 0 := fun a ha => by
    have hm : ∀ l ∈ ordFrom n (n - 1) [a], l.getD 0 0 = a := fun l hl => by
      obtain ⟨suf, rfl, -⟩ := (mem_ordFrom (by simp)).1 hl
      rfl
    by_cases e : a = s
    · subst e
      rw [if_pos rfl]
      refine List.countP_congr fun l hl => ?_
      unfold clo2
      rw [headD_getD, hm l hl, decide_eq_true rfl, Bool.and_true]
    · rw [if_neg e, List.countP_eq_zero]
      intro l hl
      rw [hm l hl, decide_eq_false e, Bool.and_false]
      decide
  rw [List.map_congr_left hz]
  have key : ∀ (c : Nat) (k : Nat), ((List.range k).map fun a => if a = s then c else 0).sum = if s < k then c else 0 := by
    intro c k
    induction k with
    | zero => rfl
    | succ k ih =>
      rw [List.range_succ, List.map_append, List.sum_append, ih, List.map_cons, List.map_nil, List.sum_cons, List.sum_nil]
      by_cases h : s < k
      · have h2 : ¬ k = s := by omega
        have h3 : s < k + 1 := by omega
        rw [if_pos h, if_neg h2, if_pos h3]; omega
      · by_cases h2 : k = s
        · have h3 : s < k + 1 := by omega
          rw [if_neg h, if_pos h2, if_pos h3]; omega
        · have h3 : ¬ s < k + 1 := by omega
          rw [if_neg h, if_neg h2, if_neg h3]
          rfl
  rw [key, if_pos hs]
end Go.Proofs.YtbkiedhaacapbaaGreat

namespace Go.Proofs.YtbkiedhaacapbaaGreat
open Go.RowKit Go.Sort
/-- the reversals of an order: who stands behind beats who stands ahead -/
def revN (r : Nat → Nat → Bool) : List Nat → Nat
  | [] => 0
  | a :: l => (l.countP fun b => r b a) + revN r l
/-- the reversals of who is first in a set -/
def costN (r : Nat → Nat → Bool) (n S a : Nat) : Nat := (memN S n).countP fun b => r b a
def arStp (C : Nat → Int) (M : Nat → Nat) (acc : Int × Nat) (a : Nat) : Int × Nat :=
  if acc.1 < 0 ∨ C a < acc.1 then (C a, M a) else if C a = acc.1 then (acc.1, acc.2 + M a) else acc
def arN (r : Nat → Nat → Bool) (n : Nat) : Nat → Nat → Int × Nat
  | 0, _ => (0, 1)
  | f + 1, S => if S = 0 then (0, 1) else (memN S n).foldl (arStp (fun a => (costN r n S a : Int) + (arN r n f (less S (2 ^ a))).1) (fun a => (arN r n f (less S (2 ^ a))).2)) (-1, 0)
/-- the orders of a set -/
def orsN (n : Nat) : Nat → Nat → List (List Nat)
  | 0, _ => [[]]
  | f + 1, S => (memN S n).flatMap fun a => (orsN n f (less S (2 ^ a))).map (a :: ·)
theorem fold_pos {C : Nat → Int} {M : Nat → Nat} : ∀ (l : List Nat) (m0 : Int) (k0 : Nat), 0 ≤ m0 → (∀ a ∈ l, 0 ≤ C a) →
    ∃ m K, l.foldl (arStp C M) (m0, k0) = (m, K) ∧ 0 ≤ m ∧ m ≤ m0 ∧ (∀ a ∈ l, m ≤ C a) ∧ (m = m0 ∨ ∃ a ∈ l, C a = m) ∧ K = (if m = m0 then k0 else 0) + (l.map fun a => if C a = m then M a else 0).sum := by
  intro l
  induction l with
  | nil => intro m0 k0 h0 _; exact ⟨m0, k0, rfl, h0, Int.le_refl _, by simp, .inl rfl, by simp⟩
  | cons a l ih =>
    intro m0 k0 h0 hC
    have hCa := hC a (by simp)
    have hCl : ∀ b ∈ l, 0 ≤ C b := fun b hb => hC b (by simp [hb])
    rw [List.foldl_cons]
    unfold arStp
    rcases Int.lt_trichotomy (C a) m0 with h | h | h
    · rw [if_pos (.inr h)]
      obtain ⟨m, K, e, h1, h2, h3, h4, h5⟩ := ih (C a) (M a) hCa hCl
      refine ⟨m, K, e, h1, by omega, fun b hb => ?_, .inr ?_, ?_⟩
      · rcases List.mem_cons.1 hb with rfl | hb
        · exact h2
        · exact h3 b hb
      · rcases h4 with h4 | ⟨b, hb, h4⟩
        · exact ⟨a, by simp, h4.symm⟩
        · exact ⟨b, by simp [hb], h4⟩
      · rw [h5, List.map_cons, List.sum_cons, if_neg (by omega : ¬ m = m0), Nat.zero_add]
        by_cases q : m = C a
        · rw [if_pos q, if_pos q.symm]
        · rw [if_neg q, if_neg (fun e => q e.symm)]
    · rw [if_neg (by show ¬ (m0 < 0 ∨ C a < m0); omega), if_pos h]
      obtain ⟨m, K, e, h1, h2, h3, h4, h5⟩ := ih m0 (k0 + M a) h0 hCl
      refine ⟨m, K, e, h1, h2, fun b hb => ?_, ?_, ?_⟩
      · rcases List.mem_cons.1 hb with rfl | hb
        · omega
        · exact h3 b hb
      · rcases h4 with h4 | ⟨b, hb, h4⟩
        · exact .inl h4
        · exact .inr ⟨b, by simp [hb], h4⟩
      · rw [h5, List.map_cons, List.sum_cons]
        by_cases q : m = m0
        · rw [if_pos q, if_pos q, if_pos (by omega)]; omega
        · rw [if_neg q, if_neg q, if_neg (by omega)]; omega
    · rw [if_neg (by show ¬ (m0 < 0 ∨ C a < m0); omega), if_neg (by show ¬ C a = m0; omega)]
      obtain ⟨m, K, e, h1, h2, h3, h4, h5⟩ := ih m0 k0 h0 hCl
      refine ⟨m, K, e, h1, h2, fun b hb => ?_, ?_, ?_⟩
      · rcases List.mem_cons.1 hb with rfl | hb
        · omega
        · exact h3 b hb
      · rcases h4 with h4 | ⟨b, hb, h4⟩
        · exact .inl h4
        · exact .inr ⟨b, by simp [hb], h4⟩
      · rw [h5, List.map_cons, List.sum_cons, if_neg (by omega : ¬ C a = m)]; omega
theorem fold_min {C : Nat → Int} {M : Nat → Nat} {l : List Nat} (hl : l ≠ []) (hC : ∀ a ∈ l, 0 ≤ C a) :
    ∃ m K, l.foldl (arStp C M) (-1, 0) = (m, K) ∧ 0 ≤ m ∧ (∀ a ∈ l, m ≤ C a) ∧ (∃ a ∈ l, C a = m) ∧ K = (l.map fun a => if C a = m then M a else 0).sum := by
  cases l with
  | nil => exact absurd rfl hl
  | cons a l =>
    rw [List.foldl_cons]
    have e0 : arStp C M (-1, 0) a = (C a, M a) := by unfold arStp; exact if_pos (.inl (by decide))
    rw [e0]
    obtain ⟨m, K, e, h1, h2, h3, h4, h5⟩ := fold_pos (M := M) l (C a) (M a) (hC a (by simp)) fun b hb => hC b (by simp [hb])
    refine ⟨m, K, e, h1, fun b hb => ?_, ?_, ?_⟩
    · rcases List.mem_cons.1 hb with rfl | hb
      · exact h2
      · exact h3 b hb
    · rcases h4 with h4 | ⟨b, hb, h4⟩
      · exact ⟨a, by simp, h4.symm⟩
      · exact ⟨b, by simp [hb], h4⟩
    · rw [h5, List.map_cons, List.sum_cons]
      by_cases q : m = C a
      · rw [if_pos q, if_pos q.symm]
      · rw [if_neg q, if_neg (fun e => q e.symm)]
theorem orsN_perm {n : Nat} : ∀ f S, S < 2 ^ n → (memN S n).length = f → ∀ l ∈ orsN n f S, l.Perm (memN S n) := by
  intro f
  induction f with
  | zero =>
    intro S hS hf l hl
    rw [orsN, List.mem_singleton] at hl
    rw [hl, List.eq_nil_of_length_eq_zero hf]
  | succ f ih =>
    intro S hS hf l hl
    rw [orsN, List.mem_flatMap] at hl
    obtain ⟨a, ha, hl⟩ := hl
    rw [List.mem_map] at hl
    obtain ⟨t, ht, rfl⟩ := hl
    have hc := card_less ha
    have := ih (less S (2 ^ a)) (less_lt hS) (by omega) t ht
    rw [memN_less, ← (memN_nodup S n).erase_eq_filter] at this
    exact (this.cons a).trans (List.perm_cons_erase ha).symm
theorem costN_less (r : Nat → Nat → Bool) (n S a : Nat) (haa : r a a = false) : (memN (less S (2 ^ a)) n).countP (fun b => r b a) = costN r n S a := by
  unfold costN
  rw [memN_less, List.countP_filter]
  refine List.countP_congr fun b _ => ?_
  by_cases e : b = a
  · subst e; simp [haa]
  · simp [e]
/-- the table's law -/
theorem arN_law {r : Nat → Nat → Bool} {n : Nat} (hr : ∀ a, r a a = false) : ∀ f S, S < 2 ^ n → (memN S n).length = f →
    ∃ m : Nat, (arN r n f S).1 = m ∧ (∀ l ∈ orsN n f S, m ≤ revN r l) ∧ (∃ l ∈ orsN n f S, revN r l = m) ∧ (arN r n f S).2 = (orsN n f S).countP fun l => revN r l == m := by
  intro f
  induction f with
  | zero =>
    intro S _ _
    refine ⟨0, rfl, fun l _ => Nat.zero_le _, ⟨[], by simp [orsN], rfl⟩, ?_⟩
    simp [orsN, arN, revN]
  | succ f ih =>
    intro S hS hf
    have h0 : S ≠ 0 := fun e => by rw [(card_zero hS).2 e] at hf; omega
    have hne : memN S n ≠ [] := fun e => by rw [e] at hf; simp at hf
    have hrec : ∀ a ∈ memN S n, ∃ m : Nat, (arN r n f (less S (2 ^ a))).1 = m ∧ (∀ l ∈ orsN n f (less S (2 ^ a)), m ≤ revN r l) ∧ (∃ l ∈ orsN n f (less S (2 ^ a)), revN r l = m) ∧ (arN r n f (less S (2 ^ a))).2 = (orsN n f (less S (2 ^ a))).countP fun l => revN r l == m :=
      fun a ha => ih _ (less_lt hS) (by have := card_less ha; omega)
    have hrev : ∀ a ∈ memN S n, ∀ l ∈ orsN n f (less S (2 ^ a)), revN r (a :: l) = costN r n S a + revN r l := fun a ha l hl => by
      rw [revN, (orsN_perm f _ (less_lt hS) (by have := card_less ha; omega) l hl).countP_eq, costN_less r n S a (hr a)]
    obtain ⟨m, K, e, h1, h2, ⟨a0, ha0, h3⟩, h4⟩ := fold_min (C := fun a => (costN r n S a : Int) + (arN r n f (less S (2 ^ a))).1) (M := fun a => (arN r n f (less S (2 ^ a))).2) hne (fun a ha => by
      obtain ⟨k, hk, -⟩ := hrec a ha
      simp only [hk]; omega)
    obtain ⟨m, rfl⟩ := Int.eq_ofNat_of_zero_le h1
    refine ⟨m, by rw [arN, if_neg h0, e], fun l hl => ?_, ?_, ?_⟩
    · rw [orsN, List.mem_flatMap] at hl
      obtain ⟨a, ha, hl⟩ := hl
      rw [List.mem_map] at hl
      obtain ⟨t, ht, rfl⟩ := hl
      obtain ⟨k, hk, hk1, -⟩ := hrec a ha
      have := h2 a ha
      have := hk1 t ht
      rw [hrev a ha t ht]
      rw [hk] at *
      omega
    · obtain ⟨k, hk, -, ⟨t, ht, hk2⟩, -⟩ := hrec a0 ha0
      refine ⟨a0 :: t, by rw [orsN]; exact List.mem_flatMap.2 ⟨a0, ha0, List.mem_map.2 ⟨t, ht, rfl⟩⟩, ?_⟩
      rw [hrev a0 ha0 t ht]
      rw [hk] at h3
      omega
    · rw [arN, if_neg h0, e, orsN, countP_flatMap']
      show K = _
      rw [h4]
      congr 1
      refine List.map_congr_left fun a ha => ?_
      obtain ⟨k, hk, hk1, -, hk3⟩ := hrec a ha
      have h2a := h2 a ha
      rw [List.countP_map, hk3]
      rw [hk] at h2a ⊢
      split
      · next q =>
        refine List.countP_congr fun l hl => ?_
        have := hrev a ha l hl
        simp only [Function.comp, beq_iff_eq]
        omega
      · next q =>
        symm
        rw [List.countP_eq_zero]
        intro l hl
        have := hrev a ha l hl
        have := hk1 l hl
        simp only [Function.comp, beq_iff_eq]
        omega
/-- more steps than players change nothing -/
theorem arN_fuel {r : Nat → Nat → Bool} {n : Nat} : ∀ f g S, S < 2 ^ n → (memN S n).length ≤ f → (memN S n).length ≤ g → arN r n f S = arN r n g S := by
  intro f
  induction f with
  | zero =>
    intro g S hS hf hg
    have h0 : S = 0 := (card_zero hS).1 (by omega)
    subst h0
    cases g with
    | zero => rfl
    | succ g => rw [arN, arN, if_pos rfl]
  | succ f ih =>
    intro g S hS hf hg
    cases g with
    | zero =>
      have h0 : S = 0 := (card_zero hS).1 (by omega)
      subst h0
      rw [arN, arN, if_pos rfl]
    | succ g =>
      rw [arN, arN]
      split
      · rfl
      · have hc : ∀ a ∈ memN S n, arN r n f (less S (2 ^ a)) = arN r n g (less S (2 ^ a)) := fun a ha => by
          have := card_less ha
          exact ih g _ (less_lt hS) (by omega) (by omega)
        generalize ((-1, 0) : Int × Nat) = acc
        generalize hL : memN S n = L at *
        clear hL
        have hg2 : ∀ (M : List Nat), (∀ a ∈ M, a ∈ L) → ∀ acc, M.foldl (arStp (fun a => (costN r n S a : Int) + (arN r n f (less S (2 ^ a))).1) (fun a => (arN r n f (less S (2 ^ a))).2)) acc = M.foldl (arStp (fun a => (costN r n S a : Int) + (arN r n g (less S (2 ^ a))).1) (fun a => (arN r n g (less S (2 ^ a))).2)) acc := by
          intro M
          induction M with
          | nil => intro _ acc; rfl
          | cons a M ihM =>
            intro hM acc
            rw [List.foldl_cons, List.foldl_cons, ihM fun b hb => hM b (by simp [hb])]
            congr 1
            unfold arStp
            simp only [hc a (hM a (by simp))]
        exact hg2 L (fun _ h => h) acc
/-- the orders of all players are those of the whole set -/
theorem ordFrom_ordS {n : Nat} : ∀ (m : Nat) (pre : List Nat), ordFrom n m pre = (orsN n m (less (2 ^ n - 1) (setW pre))).map (pre ++ ·) := by
  intro m
  induction m with
  | zero => intro pre; simp [ordFrom, orsN]
  | succ m ih =>
    intro pre
    have e : memN (less (2 ^ n - 1) (setW pre)) n = (List.range n).filter fun b => !pre.contains b := by
      unfold memN
      refine List.filter_congr fun b hb => ?_
      rw [testBit_less, testBit_full, decide_eq_true (List.mem_range.1 hb), testBit_setW, Bool.true_and]
    rw [ordFrom, orsN, List.map_flatMap, e]
    congr 1
    funext b
    rw [ih, setW_less_snoc, List.map_map]
    congr 1
    funext l
    simp
theorem ordL_ordS (n : Nat) : ordL n = orsN n n (2 ^ n - 1) := by
  unfold ordL
  rw [ordFrom_ordS]
  have e1 : less (2 ^ n - 1) (setW []) = 2 ^ n - 1 := Nat.eq_of_testBit_eq fun j => by
    rw [testBit_less, testBit_setW]; simp
  have e2 : (([] : List Nat) ++ ·) = (fun l : List Nat => l) := by funext l; rfl
  rw [e1, e2, List.map_id']
theorem full_ltN (n : Nat) : 2 ^ n - 1 < 2 ^ n := by have := Nat.two_pow_pos n; omega
theorem full_mem (n : Nat) : memN (2 ^ n - 1) n = List.range n := by
  unfold memN
  rw [List.filter_eq_self]
  intro a ha
  rw [testBit_full, decide_eq_true (List.mem_range.1 ha)]
/-- the table -/
def arT (r : Nat → Nat → Bool) (n S : Nat) : Int × Nat := arN r n n S
/-- the least number of reversals, and how many orders have it -/
def fewN (r : Nat → Nat → Bool) (n : Nat) : Nat := (arT r n (2 ^ n - 1)).1.toNat
def manyN (r : Nat → Nat → Bool) (n : Nat) : Nat := (arT r n (2 ^ n - 1)).2
theorem arT_eq {r : Nat → Nat → Bool} {n S : Nat} (hS : S < 2 ^ n) (h0 : S ≠ 0) : arT r n S = (memN S n).foldl (arStp (fun a => (costN r n S a : Int) + (arT r n (less S (2 ^ a))).1) (fun a => (arT r n (less S (2 ^ a))).2)) (-1, 0) := by
  have hl : (memN S n).length ≤ n := memN_len S n
  have hn : (memN S n).length ≠ 0 := fun e => h0 ((card_zero hS).1 e)
  obtain ⟨f, rfl⟩ : ∃ f, n = f + 1 := ⟨n - 1, by omega⟩
  unfold arT
  rw [arN_fuel (f + 1) (f + 2) S hS (by omega) (by omega), arN, if_neg h0]
theorem arT_zero (r : Nat → Nat → Bool) (n : Nat) : arT r n 0 = (0, 1) := by
  unfold arT
  cases n with
  | zero => rfl
  | succ n => rw [arN, if_pos rfl]
theorem arT_law {r : Nat → Nat → Bool} {n S : Nat} (hr : ∀ a, r a a = false) (hS : S < 2 ^ n) :
    ∃ m : Nat, (arT r n S).1 = m ∧ (∀ l ∈ orsN n (memN S n).length S, m ≤ revN r l) ∧ (∃ l ∈ orsN n (memN S n).length S, revN r l = m) ∧ (arT r n S).2 = (orsN n (memN S n).length S).countP fun l => revN r l == m := by
  have h := arN_law hr (memN S n).length S hS rfl
  unfold arT
  rw [arN_fuel n (memN S n).length S hS (memN_len S n) (Nat.le_refl _)]
  exact h
theorem few_law {r : Nat → Nat → Bool} {n : Nat} (hr : ∀ a, r a a = false) :
    (arT r n (2 ^ n - 1)).1 = (fewN r n : Int) ∧ (∀ l ∈ ordL n, fewN r n ≤ revN r l) ∧ (∃ l ∈ ordL n, revN r l = fewN r n) ∧ manyN r n = (ordL n).countP fun l => revN r l == fewN r n := by
  obtain ⟨m, h1, h2, h3, h4⟩ := arT_law (r := r) hr (full_ltN n)
  rw [full_mem, List.length_range, ← ordL_ordS] at h2 h3 h4
  have e : fewN r n = m := by unfold fewN; rw [h1]; rfl
  rw [e]
  exact ⟨h1, h2, h3, h4⟩
theorem many_pos {r : Nat → Nat → Bool} {n : Nat} (hr : ∀ a, r a a = false) : 1 ≤ manyN r n := by
  obtain ⟨-, -, ⟨l, hl, h3⟩, h4⟩ := few_law (r := r) (n := n) hr
  rw [h4]
  exact List.countP_pos_iff.2 ⟨l, hl, by simp [h3]⟩
/-- bounds -/
theorem revN_le (r : Nat → Nat → Bool) : ∀ l : List Nat, revN r l ≤ l.length * l.length := by
  intro l
  induction l with
  | nil => simp [revN]
  | cons a l ih =>
    rw [revN, List.length_cons]
    have := List.countP_le_length (p := fun b => r b a) (l := l)
    have e : (l.length + 1) * (l.length + 1) = l.length * l.length + 2 * l.length + 1 := by rw [Nat.add_mul, Nat.mul_add]; omega
    omega
theorem orsN_len {n : Nat} (hn : n ≤ 8) : ∀ f S, (orsN n f S).length ≤ 8 ^ f := by
  intro f
  induction f with
  | zero => intro S; simp [orsN]
  | succ f ih =>
    intro S
    rw [orsN, List.length_flatMap]
    have e : ((memN S n).map fun a => ((orsN n f (less S (2 ^ a))).map (a :: ·)).length) = (memN S n).map fun a => (orsN n f (less S (2 ^ a))).length := List.map_congr_left fun a _ => List.length_map ..
    rw [e]
    have h1 := sum_le (l := memN S n) (F := fun a => (orsN n f (less S (2 ^ a))).length) (B := 8 ^ f) fun b _ => ih _
    have h2 : (memN S n).length * 8 ^ f ≤ 8 * 8 ^ f := Nat.mul_le_mul_right _ (Nat.le_trans (memN_len S n) hn)
    rw [Nat.pow_succ, Nat.mul_comm (8 ^ f)]
    omega
theorem arT_bound {r : Nat → Nat → Bool} {n S : Nat} (hr : ∀ a, r a a = false) (hn : n ≤ 8) (hS : S < 2 ^ n) : 0 ≤ (arT r n S).1 ∧ (arT r n S).1 ≤ 64 ∧ (arT r n S).2 ≤ 16777216 := by
  obtain ⟨m, h1, h2, ⟨l, hl, h3⟩, h4⟩ := arT_law (r := r) hr hS
  have hlen := memN_len S n
  have hp := (orsN_perm _ S hS rfl l hl).length_eq
  have hr2 := revN_le r l
  have h8 : l.length * l.length ≤ 8 * 8 := Nat.mul_le_mul (by omega) (by omega)
  refine ⟨by rw [h1]; omega, by rw [h1]; omega, ?_⟩
  rw [h4]
  refine Nat.le_trans List.countP_le_length (Nat.le_trans (orsN_len hn _ S) ?_)
  exact Nat.le_trans (Nat.pow_le_pow_right (by decide) (by omega : (memN S n).length ≤ 8)) (by decide)
/-- the first best order -/
def bestF (r : Nat → Nat → Bool) (n : Nat) : Nat → Nat → List Nat
  | 0, _ => []
  | f + 1, S => match (memN S n).find? fun a => decide ((costN r n S a : Int) + (arT r n (less S (2 ^ a))).1 = (arT r n S).1) with
    | some a => a :: bestF r n f (less S (2 ^ a))
    | none => []
def bestO (r : Nat → Nat → Bool) (n : Nat) : List Nat := bestF r n n (2 ^ n - 1)
/-- someone is first in a best order -/
theorem bestF_step {r : Nat → Nat → Bool} {n S : Nat} (hr : ∀ a, r a a = false) (hS : S < 2 ^ n) (h0 : S ≠ 0) : ∃ a, (memN S n).find? (fun a => decide ((costN r n S a : Int) + (arT r n (less S (2 ^ a))).1 = (arT r n S).1)) = some a ∧ a ∈ memN S n ∧ (costN r n S a : Int) + (arT r n (less S (2 ^ a))).1 = (arT r n S).1 := by
  have hne : memN S n ≠ [] := fun e => h0 ((card_zero hS).1 (by rw [e]; rfl))
  obtain ⟨m, K, e, -, -, ⟨a, ha, h3⟩, -⟩ := fold_min (C := fun a => (costN r n S a : Int) + (arT r n (less S (2 ^ a))).1) (M := fun a => (arT r n (less S (2 ^ a))).2) hne fun a ha => by
    have := (arT_law (r := r) (S := less S (2 ^ a)) hr (less_lt hS))
    obtain ⟨k, hk, -⟩ := this
    simp only [hk]; omega
  have e2 : (arT r n S).1 = m := by rw [arT_eq hS h0, e]
  rcases q : (memN S n).find? (fun a => decide ((costN r n S a : Int) + (arT r n (less S (2 ^ a))).1 = (arT r n S).1)) with _ | b
  · rw [List.find?_eq_none] at q
    exact absurd (by rw [e2]; simpa using h3) (q a ha)
  · exact ⟨b, rfl, List.mem_of_find?_eq_some q, by have := List.find?_some q; simpa using this⟩
theorem bestF_law {r : Nat → Nat → Bool} {n : Nat} (hr : ∀ a, r a a = false) : ∀ f S, S < 2 ^ n → (memN S n).length = f → bestF r n f S ∈ orsN n f S ∧ (revN r (bestF r n f S) : Int) = (arT r n S).1 := by
  intro f
  induction f with
  | zero =>
    intro S hS hf
    have h0 : S = 0 := (card_zero hS).1 hf
    subst h0
    refine ⟨by simp [bestF, orsN], by rw [arT_zero]; rfl⟩
  | succ f ih =>
    intro S hS hf
    have h0 : S ≠ 0 := fun e => by rw [(card_zero hS).2 e] at hf; omega
    obtain ⟨a, h1, h2, h3⟩ := bestF_step hr hS h0
    have hc := card_less h2
    obtain ⟨i1, i2⟩ := ih (less S (2 ^ a)) (less_lt hS) (by omega)
    rw [bestF, h1]
    refine ⟨by rw [orsN]; exact List.mem_flatMap.2 ⟨a, h2, List.mem_map.2 ⟨_, i1, rfl⟩⟩, ?_⟩
    rw [revN, (orsN_perm f _ (less_lt hS) (by omega) _ i1).countP_eq, costN_less r n S a (hr a), ← h3, ← i2]
    simp
theorem bestO_law {r : Nat → Nat → Bool} {n : Nat} (hr : ∀ a, r a a = false) : bestO r n ∈ ordL n ∧ revN r (bestO r n) = fewN r n := by
  have h := bestF_law (r := r) hr n (2 ^ n - 1) (full_ltN n) (by rw [full_mem, List.length_range])
  rw [← ordL_ordS, (few_law hr).1] at h
  exact ⟨h.1, Int.ofNat.inj h.2⟩
theorem revN_map {r s : Nat → Nat → Bool} {f : Nat → Nat} {n : Nat} (hf : ∀ a b, a < n → b < n → s (f a) (f b) = r a b) : ∀ {l : List Nat}, (∀ x ∈ l, x < n) → revN s (l.map f) = revN r l := by
  intro l
  induction l with
  | nil => intro _; rfl
  | cons a l ih =>
    intro hl
    rw [List.map_cons, revN, revN, ih fun x hx => hl x (by simp [hx]), List.countP_map]
    congr 1
    refine List.countP_congr fun b hb => ?_
    simp only [Function.comp]
    rw [hf b a (hl b (by simp [hb])) (hl a (by simp))]
/-- other names change nothing -/
theorem few_rename {r s : Nat → Nat → Bool} {f : Nat → Nat} {n : Nat} (hr : ∀ a, r a a = false) (hs : ∀ a, s a a = false) (hf1 : ∀ a, a < n → f a < n) (hf2 : ∀ a b, a < n → b < n → f a = f b → a = b) (hf : ∀ a b, a < n → b < n → s (f a) (f b) = r a b) :
    fewN s n = fewN r n ∧ manyN s n = manyN r n := by
  obtain ⟨hm1, hm2⟩ := map_turn hf1 hf2
  obtain ⟨-, r2, ⟨l, hl, r3⟩, r4⟩ := few_law (r := r) (n := n) hr
  obtain ⟨-, s2, ⟨k, hk, s3⟩, s4⟩ := few_law (r := s) (n := n) hs
  have hrv : ∀ l ∈ ordL n, revN s (l.map f) = revN r l := fun l hl => revN_map hf (mem_ordL.1 hl).2.1
  have e1 : (ordL n).countP (fun l => revN s l == fewN s n) = (ordL n).countP fun l => revN r l == fewN s n := by
    rw [ord_turn hm1 hm2]
    exact List.countP_congr fun l hl => by rw [hrv l hl]
  have hpos := many_pos (r := s) (n := n) hs
  rw [s4, e1] at hpos
  obtain ⟨x, hx, hx2⟩ := List.countP_pos_iff.1 hpos
  have hx2 : revN r x = fewN s n := by simpa using hx2
  have a1 := r2 x hx
  have a2 := s2 _ (hm1 l hl)
  rw [hrv l hl] at a2
  have e : fewN s n = fewN r n := by omega
  exact ⟨e, by rw [s4, e1, e, r4]⟩
theorem revN_snoc (r : Nat → Nat → Bool) (x : Nat) : ∀ l : List Nat, revN r (l ++ [x]) = revN r l + l.countP fun b => r x b := by
  intro l
  induction l with
  | nil => rfl
  | cons a l ih =>
    rw [List.cons_append, revN, revN, ih, List.countP_append, List.countP_cons (a := a)]
    simp only [List.countP_cons, List.countP_nil]
    omega
/-- an order and its reverse share all games -/
theorem revN_back {r : Nat → Nat → Bool} {n : Nat} (hr : ∀ a b, a < n → b < n → a ≠ b → r a b = !r b a) : ∀ {l : List Nat}, l.Nodup → (∀ x ∈ l, x < n) → 2 * (revN r l.reverse + revN r l) + l.length = l.length * l.length := by
  intro l
  induction l with
  | nil => intro _ _; rfl
  | cons a l ih =>
    intro hn hl
    rw [List.nodup_cons] at hn
    have h1 := ih hn.2 fun x hx => hl x (by simp [hx])
    rw [List.reverse_cons, revN_snoc, revN, List.countP_reverse, List.length_cons]
    have h2 : (l.countP fun b => r a b) + (l.countP fun b => r b a) = l.length := by
      rw [List.length_eq_countP_add_countP (l := l) (fun b => r a b)]
      congr 1
      refine List.countP_congr fun b hb => ?_
      rw [hr a b (hl a (by simp)) (hl b (by simp [hb])) (fun e => by subst e; exact hn.1 hb)]
      simp
    have e : (l.length + 1) * (l.length + 1) = l.length * l.length + 2 * l.length + 1 := by rw [Nat.add_mul, Nat.mul_add]; omega
    omega
theorem revN_app {r : Nat → Nat → Bool} {m1 m2 : List Nat} (hp : m1.Perm m2) {d : Nat} (h : revN r m1 = revN r m2 + d) : ∀ p : List Nat, revN r (p ++ m1) = revN r (p ++ m2) + d := by
  intro p
  induction p with
  | nil => exact h
  | cons a p ih =>
    rw [List.cons_append, List.cons_append, revN, revN, ih, (hp.append_left p).countP_eq]
    omega
/-- a best order is a way -/
theorem best_is_way {r : Nat → Nat → Bool} {n : Nat} (hr : ∀ a b, a < n → b < n → a ≠ b → r a b = !r b a) {l : List Nat} (hl : l ∈ ordL n) (hm : ∀ k ∈ ordL n, revN r l ≤ revN r k) : way r l = true := by
  obtain ⟨hlen, hlt, hnd⟩ := mem_ordL.1 hl
  rw [way_iff]
  intro i hi
  have hsplit : l = l.take i ++ (l.getD i 0 :: l.getD (i + 1) 0 :: l.drop (i + 2)) := by
    have h1 : l.drop i = l.getD i 0 :: l.drop (i + 1) := by
      rw [List.drop_eq_getElem_cons (by omega), getD_nat (by omega)]
    have h2 : l.drop (i + 1) = l.getD (i + 1) 0 :: l.drop (i + 2) := by
      rw [List.drop_eq_getElem_cons (by omega), getD_nat (by omega)]
    conv => lhs; rw [← List.take_append_drop i l, h1, h2]
  generalize l.getD i 0 = a at *
  generalize l.getD (i + 1) 0 = b at *
  generalize l.take i = p at *
  generalize l.drop (i + 2) = q at *
  subst hsplit
  have hab : a ≠ b := fun e => by
    subst e
    have := (List.nodup_append.1 hnd).2.1
    simp at this
  have ha := hlt a (by simp)
  have hb := hlt b (by simp)
  rcases h : r a b with _ | _
  · exfalso
    have h2 : r b a = true := by have := hr a b ha hb hab; rw [h] at this; simpa using this.symm
    have hsw : (a :: b :: q).Perm (b :: a :: q) := List.Perm.swap b a q
    have e : revN r (a :: b :: q) = revN r (b :: a :: q) + 1 := by
      simp only [revN, List.countP_cons, h, h2]
      simp
      omega
    have h3 := revN_app hsw e p
    have h4 := hm (p ++ b :: a :: q) (mem_ordL.2 ⟨by rw [← hlen]; simp, fun x hx => hlt x (((hsw.append_left p).mem_iff).2 hx), ((hsw.append_left p).nodup_iff).1 hnd⟩)
    omega
  · rfl
end Go.Proofs.YtbkiedhaacapbaaGreat

namespace Go.Proofs.YtbkiedhaacapbaaGreat
open Go.RowKit Go.Sort
set_option maxRecDepth 100000

/-- from the right: how far x goes -/
def posR (bef : Int → Int → Bool) (x : Int) (S : List Int) : Nat → Nat
  | 0 => 0
  | k + 1 => if bef x (S.getD k 0) = true then posR bef x S k else k + 1
def insR (bef : Int → Int → Bool) (S : List Int) (x : Int) : List Int := S.take (posR bef x S S.length) ++ x :: S.drop (posR bef x S S.length)
def sortR (bef : Int → Int → Bool) (L : List Int) : List Int := L.foldl (insR bef) []
theorem posR_le (bef : Int → Int → Bool) (x : Int) (S : List Int) (k : Nat) : posR bef x S k ≤ k := by
  induction k with
  | zero => exact Nat.le_refl _
  | succ k ih =>
    simp only [posR]
    split <;> omega
theorem posR_go {bef : Int → Int → Bool} {x : Int} {S : List Int} {k : Nat} (h : bef x (S.getD k 0) = true) : posR bef x S (k + 1) = posR bef x S k := by simp only [posR, h, if_true]
theorem posR_stop {bef : Int → Int → Bool} {x : Int} {S : List Int} {k : Nat} (h : bef x (S.getD k 0) = false) : posR bef x S (k + 1) = k + 1 := by simp only [posR, h]; rfl
theorem insR_len (bef : Int → Int → Bool) (S : List Int) (x : Int) : (insR bef S x).length = S.length + 1 := by
  have := posR_le bef x S S.length
  unfold insR
  simp; omega
theorem sortR_succ (bef : Int → Int → Bool) (L : List Int) {i : Nat} (h : i < L.length) : sortR bef (L.take (i + 1)) = insR bef (sortR bef (L.take i)) (L.getD i 0) := by
  unfold sortR
  rw [List.take_succ_eq_append_getElem h, List.foldl_append, show L.getD i 0 = L[i] by simp [h]]
  rfl
theorem sortR_len (bef : Int → Int → Bool) (L : List Int) {i : Nat} (h : i ≤ L.length) : (sortR bef (L.take i)).length = i := by
  induction i with
  | zero => rfl
  | succ i ih => rw [sortR_succ bef L (by omega), insR_len, ih (by omega)]
/-- the row while x is on its way: it stands at j -/
def midR (S : List Int) (x : Int) (rest : List Int) (j : Nat) : List Int := S.take j ++ x :: S.drop j ++ rest
theorem midR_len (S : List Int) (x : Int) (rest : List Int) (j : Nat) (h : j ≤ S.length) : (midR S x rest j).length = S.length + 1 + rest.length := by
  unfold midR; simp; omega
theorem midR_at (S : List Int) (x : Int) (rest : List Int) (j : Nat) (h : j ≤ S.length) : (midR S x rest j).getD j 0 = x := by
  unfold midR
  have hl : (S.take j).length = j := by rw [List.length_take]; omega
  rw [List.append_assoc, List.getD_eq_getElem?_getD, List.getElem?_append_right (by omega), hl, Nat.sub_self]
  rfl
theorem midR_prev (S : List Int) (x : Int) (rest : List Int) (j : Nat) (h : j + 1 ≤ S.length) : (midR S x rest (j + 1)).getD j 0 = S.getD j 0 := by
  unfold midR
  have hl : (S.take (j + 1)).length = j + 1 := by rw [List.length_take]; omega
  rw [List.append_assoc, List.getD_eq_getElem?_getD, List.getElem?_append_left (by omega), List.getElem?_take, if_pos (by omega), ← List.getD_eq_getElem?_getD]
theorem midR_swap (S : List Int) (x : Int) (rest : List Int) (j : Nat) (h : j + 1 ≤ S.length) : ((midR S x rest (j + 1)).set (j + 1) (S.getD j 0)).set j x = midR S x rest j := by
  have e1 : S.take (j + 1) = S.take j ++ [S.getD j 0] := by
    rw [List.take_succ_eq_append_getElem (by omega), show S.getD j 0 = S[j] by simp [show j < S.length by omega]]
  have e2 : S.drop j = S.getD j 0 :: S.drop (j + 1) := by
    rw [List.drop_eq_getElem_cons (by omega : j < S.length), show S.getD j 0 = S[j] by simp [show j < S.length by omega]]
  have hlj : (S.take j).length = j := by rw [List.length_take]; omega
  unfold midR
  rw [e1, e2]
  generalize S.getD j 0 = y
  generalize S.take j = P at *
  simp only [List.append_assoc, List.cons_append, List.nil_append]
  rw [List.set_append_right _ _ (by omega), hlj, show j + 1 - j = 1 by omega, List.set_cons_succ, List.set_cons_zero, List.set_append_right _ _ (by omega), hlj, Nat.sub_self, List.set_cons_zero]
theorem midR_start (S : List Int) (x : Int) (rest : List Int) : midR S x rest S.length = S ++ x :: rest := by
  unfold midR; simp
theorem midR_end (bef : Int → Int → Bool) (S : List Int) (x : Int) (rest : List Int) (j : Nat) (h : posR bef x S S.length = j) : midR S x rest j = insR bef S x ++ rest := by
  unfold midR insR; rw [h]
theorem mem_insR {bef : Int → Int → Bool} {S : List Int} {x y : Int} (h : y ∈ insR bef S x) : y = x ∨ y ∈ S := by
  unfold insR at h
  rw [List.mem_append, List.mem_cons] at h
  rcases h with h | h | h
  · exact .inr (List.mem_of_mem_take h)
  · exact .inl h
  · exact .inr (List.mem_of_mem_drop h)
theorem mem_sortR {bef : Int → Int → Bool} {L : List Int} {y : Int} {i : Nat} (hi : i ≤ L.length) (h : y ∈ sortR bef (L.take i)) : y ∈ L := by
  induction i with
  | zero => simp [sortR] at h
  | succ i ih =>
    rw [sortR_succ bef L (by omega)] at h
    rcases mem_insR h with rfl | h
    · rw [show L.getD i 0 = L[i] by simp [show i < L.length by omega]]; exact List.getElem_mem _
    · exact ih (by omega) h
theorem drop_eq' {L : List Int} {k : Nat} (h : k < L.length) : L.drop k = L.getD k 0 :: L.drop (k + 1) := by
  rw [List.drop_eq_getElem_cons h, show L.getD k 0 = L[k] by simp [h]]
theorem getD_memI {L : List Int} {i : Nat} (h : i < L.length) : L.getD i 0 ∈ L := by
  rw [show L.getD i 0 = L[i] by simp [h]]; exact List.getElem_mem h
theorem sortR_one (bef : Int → Int → Bool) (L : List Int) (h : 1 ≤ L.length) : sortR bef (L.take 1) ++ L.drop 1 = L := by
  cases L with
  | nil => simp at h
  | cons x L => simp [sortR, insR, posR]
set_option maxHeartbeats 4000000 in
theorem insSort_any (F : FuncId) (caps : Array Value) (hE : Enters F) (cf : Int → Int → Int) (L : List Int) (n base g c : Nat) (w : World) (hl : L.length = n) (hn : n ≤ 40) (hc : c ≤ 4611686018427387904) (hnc : n ≤ c) (h1 : 1 ≤ n) (hbase : base ≤ w.heap.size)
    (h : Own w base (.slice (some ⟨g, 0, none⟩) n c) L)
    (hf : ∀ x ∈ L, ∀ y ∈ L, ∀ w', Below base w w' → Calls Tryz.prog F (#[.int .i64 x, .int .i64 y] ++ caps) w' fun e w'' => e = .returned (.int .i64 (cf x y)) ∧ Below w'.heap.size w' w'') :
    Calls Tryz.prog 103 #[.slice (some ⟨g, 0, none⟩) n c, .int .i64 0, .int .i64 n, .func (.func F) #[] caps] w fun e w' => e = .returned (.tuple #[]) ∧ Own w' base (.slice (some ⟨g, 0, none⟩) n c) (sortR (fun x y => decide (cf x y < 0)) L) ∧ Below base w w' := by
  have HF := Lib.hid hf
  clear hf
  have hE' : ∀ (args : Array Value) (W : World), (callFunc F args).run Tryz.prog W = .ok (.enter F args) W := hE
  have hg := (h.lt g rfl)
  have HO0 := Lib.hid h
  have HL := Lib.hid hl
  clear h hl
  generalize hbef : (fun x y => decide (cf x y < 0)) = bef at *
  have HBEF : Hid (∀ x y, bef x y = decide (cf x y < 0)) := fun x y => by rw [← hbef]
  clear hbef
  go_enter Tryz.func103, Tryz.ntmps103
  go_wp2
  go_loopw [8] (fun i wr => ∃ k : Nat, 1 ≤ k ∧ k ≤ n ∧ i = .int .i64 k ∧ Own wr base (.slice (some ⟨g, 0, none⟩) n c) (sortR bef (L.take k) ++ L.drop k) ∧ Below base w wr) (fun i _ => n - (intOf i).toNat)
  case atStart => exact ⟨1, by omega, h1, by go_num, by rw [sortR_one bef L (by rw [HL.out]; exact h1)]; exact HO0.out, (Below.refl _ _).mono hbase⟩
  case round =>
    obtain ⟨wo, rfl⟩ : ∃ x, x = wr := ⟨_, rfl⟩
    obtain ⟨k, hk1, hk, rfl, ho, hb⟩ := hrel
    have HO := Lib.hid ho
    have HB := Lib.hid hb
    clear ho hb
    by_cases hlt : k < n
    · go_wp2
      go_loopw [9] (fun i wr => ∃ j : Nat, j ≤ k ∧ i = .int .i64 j ∧ Own wr base (.slice (some ⟨g, 0, none⟩) n c) (midR (sortR bef (L.take k)) (L.getD k 0) (L.drop (k + 1)) j) ∧ Hid (posR bef (L.getD k 0) (sortR bef (L.take k)) k = posR bef (L.getD k 0) (sortR bef (L.take k)) j) ∧ Below base w wr) (fun i _ => (intOf i).toNat)
      case atStart => exact ⟨k, by omega, rfl, by
        have e := midR_start (sortR bef (L.take k)) (L.getD k 0) (L.drop (k + 1))
        rw [sortR_len bef L (by rw [HL.out]; omega)] at e
        rw [e, ← drop_eq' (by rw [HL.out]; exact hlt)]; exact HO.out, rfl, HB.out⟩
      case round =>
        obtain ⟨j, hj, rfl, ho, HP, hb⟩ := hrel
        have HOj := Lib.hid ho
        have HBj := Lib.hid hb
        have hSl := sortR_len bef L (i := k) (by rw [HL.out]; omega)
        have HMA := Lib.hid (midR_at (sortR bef (L.take k)) (L.getD k 0) (L.drop (k + 1)) j (by omega))
        have HML := Lib.hid (midR_len (sortR bef (L.take k)) (L.getD k 0) (L.drop (k + 1)) j (by omega))
        clear ho hb
        rcases Nat.eq_zero_or_pos j with rfl | hj0
        · go_wp2_with fail
          refine wp_region_below (by kernel_rfl) (by kernel_rfl) ?_
          repeat (go_big_quiet_step (first | (with_reducible fail)))
          refine wpQuiet_nil ?_
          intro wq hbq0
          have HBQ := Lib.hid hbq0
          clear hbq0
          have hpos : posR bef (L.getD k 0) (sortR bef (L.take k)) (sortR bef (L.take k)).length = 0 := by rw [hSl]; exact HP.out
          have HFIN := Lib.hid (midR_end bef (sortR bef (L.take k)) (L.getD k 0) (L.drop (k + 1)) 0 hpos)
          have HSU := Lib.hid (sortR_succ bef L (show k < L.length by rw [HL.out]; exact hlt))
          clear hpos
          go_wp2
          go_roundw
          case rel => exact ⟨k + 1, by omega, by omega, by go_num, by rw [HSU.out, ← HFIN.out]; exact HOj.out.below HBQ.out, HBj.out.trans (HBQ.out.mono (Nat.le_trans hbase HBj.out.size))⟩
          case measure => simp [intOf]; omega
        · obtain ⟨j, rfl⟩ : ∃ i, j = i + 1 := ⟨j - 1, by omega⟩
          have hx : L.getD k 0 ∈ L := getD_memI (by rw [HL.out]; exact hlt)
          have hy : (sortR bef (L.take k)).getD j 0 ∈ L := mem_sortR (i := k) (by rw [HL.out]; omega) (getD_memI (by omega))
          have HPR := Lib.hid (midR_prev (sortR bef (L.take k)) (L.getD k 0) (L.drop (k + 1)) j (by omega))
          have HSW := Lib.hid (midR_swap (sortR bef (L.take k)) (L.getD k 0) (L.drop (k + 1)) j (by omega))
          have HGO := Lib.hid (fun h => posR_go (bef := bef) (x := L.getD k 0) (S := sortR bef (L.take k)) (k := j) h)
          have HST := Lib.hid (fun h => posR_stop (bef := bef) (x := L.getD k 0) (S := sortR bef (L.take k)) (k := j) h)
          have HEND := Lib.hid (fun h => midR_end bef (sortR bef (L.take k)) (L.getD k 0) (L.drop (k + 1)) (j + 1) h)
          have HSU := Lib.hid (sortR_succ bef L (show k < L.length by rw [HL.out]; exact hlt))
          have HBF := Lib.hid (HBEF.out (L.getD k 0) ((sortR bef (L.take k)).getD j 0))
          have hlr : (L.drop (k + 1)).length = n - (k + 1) := by rw [List.length_drop, HL.out]
          rw [hSl, hlr] at HML
          have hlM : (midR (sortR bef (L.take k)) (L.getD k 0) (L.drop (k + 1)) (j + 1)).length = n := by rw [HML.out]; omega
          obtain ⟨hxc, hfz⟩ := HOj.out.at1 hlM (by omega)
          have z1 := hxc (j + 1) (by omega)
          have z0 := hxc j (by omega)
          rw [HMA.out] at z1
          rw [HPR.out] at z0
          have k1 := quiet_below (w := wr) (fun W hW => HF.out _ hx _ hy W (HBj.out.trans (hW.mono (Nat.le_trans hbase HBj.out.size))))
          rw [hSl] at HEND
          clear hx hy hxc hfz hlr
          generalize hS : sortR bef (L.take k) = S at *
          generalize hX : L.getD k 0 = x at *
          generalize hR : L.drop (k + 1) = rest at *
          generalize hY : S.getD j 0 = y at *
          have hk1 := k1 0 #[]
          rcases hq : bef x y with _ | _
          · have hr : ¬ cf x y < 0 := by rw [HBF.out] at hq; exact of_decide_eq_false hq
            generalize cf x y = r at *
            go_wp2_with fail
            have c1 := cell_regrown z1
            have c0 := cell_regrown z0
            clear z0 z1
            refine wp_region_below (by kernel_rfl) (by kernel_rfl) ?_
            repeat (go_big_quiet_step (first | (with_reducible exact k1 _ _)))
            refine wpQuiet_nil ?_
            intro wq hbq0
            have HBQ := Lib.hid hbq0
            clear hbq0 c0 c1 k1 hk1
            have HFIN := Lib.hid (HEND.out (by rw [HP.out]; exact HST.out hq))
            go_wp2
            go_roundw
            case rel => exact ⟨k + 1, by omega, by omega, by go_num, by rw [HSU.out, hR, ← HFIN.out]; exact HOj.out.below HBQ.out, HBj.out.trans (HBQ.out.mono (Nat.le_trans hbase HBj.out.size))⟩
            case measure => simp [intOf]; omega
          · have hr : cf x y < 0 := by rw [HBF.out] at hq; exact of_decide_eq_true hq
            generalize cf x y = r at *
            go_wp2_with fail
            have c1 := cell_regrown z1
            have c0 := cell_regrown z0
            clear z0 z1
            refine wp_region_below (by kernel_rfl) (by kernel_rfl) ?_
            repeat (go_big_quiet_step (first | (with_reducible exact k1 _ _)))
            refine wpQuiet_nil ?_
            intro wq hbq0
            have HBQ := Lib.hid hbq0
            clear hbq0 c0 c1 k1 hk1
            have O2 := HOj.out.below HBQ.out
            have HB2 := Lib.hid (HBj.out.trans (HBQ.out.mono (Nat.le_trans hbase HBj.out.size)))
            obtain ⟨hxc, hfz⟩ := O2.at1 hlM (by omega)
            have z1 := hxc (j + 1) (by omega)
            have z0 := hxc j (by omega)
            rw [HMA.out] at z1
            rw [HPR.out] at z0
            have f1 := hfz (j + 1)
            have f0 := hfz j
            have O3 := (O2.set_ hlM (j + 1) y).1
            have hlM2 : ((midR S x rest (j + 1)).set (j + 1) y).length = n := by rw [List.length_set]; exact hlM
            have O4 := Lib.hid (O3.set_ hlM2 j x).1
            rw [HSW.out] at O4
            have HB4 := Lib.hid ((HB2.out.setCell (p := ⟨g, j + 1, none⟩) hg.1 (.int .i64 y)).setCell (p := ⟨g, j, none⟩) hg.1 (.int .i64 x))
            have HPN := HGO.out hq
            clear O2 O3 hxc hfz
            go_wp2_with fail
            have hwj : IntKind.i64.wrap ((j : Nat) : Int) = (j : Int) := by rw [IntWalk.i64_left]; exact wrap64_nat j (by omega)
            have hjn : j < n := by omega
            have hjn1 : j + 1 < n := by omega
            have hjn2 : (j : Int) + 1 < (n : Int) := by omega
            have hjn3 : (0 : Int) ≤ (j : Int) + 1 := by omega
            go_region_law (fail)
            all_goals
              have HO5 : Hid (Own ((wq.setCell ⟨g, j + 1, none⟩ (.int .i64 y)).setCell ⟨g, j, none⟩ (.int .i64 x)).drew base (.slice (some ⟨g, 0, none⟩) n c) (midR S x rest j)) := O4.out
              have HB5 : Hid (Below base w ((wq.setCell ⟨g, j + 1, none⟩ (.int .i64 y)).setCell ⟨g, j, none⟩ (.int .i64 x)).drew) := ⟨HB4.out.os, HB4.out.tape, HB4.out.output, HB4.out.size, HB4.out.block⟩
              have HPJ : Hid (posR bef x S k = posR bef x S j) := HP.out.trans HPN
              clear z1 z0 f1 f0 hwj hjn hjn1 hjn2 hjn3
              generalize ((wq.setCell ⟨g, j + 1, none⟩ (.int .i64 y)).setCell ⟨g, j, none⟩ (.int .i64 x)).drew = w9 at HO5 HB5 ⊢
              go_wp2
              go_roundw
              case rel => exact ⟨j, by omega, by go_num, HO5.out, HPJ.out, HB5.out⟩
              case measure => simp [intOf]
    · obtain rfl : n = k := by omega
      have e1 : L.take n = L := List.take_of_length_le (by rw [HL.out]; exact Nat.le_refl _)
      have e2 : L.drop n = [] := List.drop_eq_nil_of_le (by rw [HL.out]; exact Nat.le_refl _)
      rw [e1, e2, List.append_nil] at HO
      go_wp2
      go_end0
      exact ⟨rfl, HO.out, HB.out⟩
set_option maxHeartbeats 2000000 in
theorem stable_any (F : FuncId) (caps : Array Value) (hE : Enters F) (cf : Int → Int → Int) (L : List Int) (n base g c : Nat) (w : World) (hl : L.length = n) (hn : n < 20) (hc : c ≤ 4611686018427387904) (hnc : n ≤ c) (h1 : 1 ≤ n) (hbase : base ≤ w.heap.size)
    (h : Own w base (.slice (some ⟨g, 0, none⟩) n c) L)
    (hf : ∀ x ∈ L, ∀ y ∈ L, ∀ w', Below base w w' → Calls Tryz.prog F (#[.int .i64 x, .int .i64 y] ++ caps) w' fun e w'' => e = .returned (.int .i64 (cf x y)) ∧ Below w'.heap.size w' w'') :
    Calls Tryz.prog 92 #[.slice (some ⟨g, 0, none⟩) n c, .int .i64 n, .func (.func F) #[] caps] w fun e w' => e = .returned (.tuple #[]) ∧ Own w' base (.slice (some ⟨g, 0, none⟩) n c) (sortR (fun x y => decide (cf x y < 0)) L) ∧ Below base w w' := by
  have HI := Lib.hid (insSort_any F caps hE cf L n base g c w hl (by omega) hc hnc h1 hbase h hf)
  clear h hf
  go_enter Tryz.func92, Tryz.ntmps92
  go_wp2
  go_loopw [7, 8] (fun a b wr => a = .int .i64 0 ∧ b = .int .i64 20 ∧ wr = w) (fun _ _ _ => 0)
  case atStart => exact ⟨rfl, rfl, rfl⟩
  case round =>
    obtain ⟨rfl, rfl, rfl⟩ := hrel
    go_wp2_with fail
    refine HI.out.mono ?_
    rintro e w1 ⟨rfl, ho, hb⟩
    have HO := Lib.hid ho
    have HB := Lib.hid hb
    clear ho hb
    go_wp2
    go_loopw [6] (fun i wr => i = .int .i64 20 ∧ wr = w1) (fun _ _ => 0)
    case atStart => exact ⟨rfl, rfl⟩
    case round =>
      obtain ⟨rfl, rfl⟩ := hrel
      go_wp2
      go_end0
      exact ⟨rfl, HO.out, HB.out⟩
theorem sortStable_any (F : FuncId) (caps : Array Value) (hE : Enters F) (cf : Int → Int → Int) (L : List Int) (n base g c : Nat) (w : World) (hl : L.length = n) (hn : n < 20) (hc : c ≤ 4611686018427387904) (hnc : n ≤ c) (h1 : 1 ≤ n) (hbase : base ≤ w.heap.size)
    (h : Own w base (.slice (some ⟨g, 0, none⟩) n c) L)
    (hf : ∀ x ∈ L, ∀ y ∈ L, ∀ w', Below base w w' → Calls Tryz.prog F (#[.int .i64 x, .int .i64 y] ++ caps) w' fun e w'' => e = .returned (.int .i64 (cf x y)) ∧ Below w'.heap.size w' w'') :
    Calls Tryz.prog 67 #[.slice (some ⟨g, 0, none⟩) n c, .func (.func F) #[] caps] w fun e w' => e = .returned (.tuple #[]) ∧ Own w' base (.slice (some ⟨g, 0, none⟩) n c) (sortR (fun x y => decide (cf x y < 0)) L) ∧ Below base w w' := by
  have HI := Lib.hid (stable_any F caps hE cf L n base g c w hl hn hc hnc h1 hbase h hf)
  clear h hf
  go_enter Tryz.func67, Tryz.ntmps67
  go_wp2_with fail
  refine HI.out.mono ?_
  rintro e w1 ⟨rfl, ho, hb⟩
  have HO := Lib.hid ho
  have HB := Lib.hid hb
  clear ho hb
  go_wp2
  go_end0
  exact ⟨rfl, HO.out, HB.out⟩
end Go.Proofs.YtbkiedhaacapbaaGreat

namespace Go.Proofs.YtbkiedhaacapbaaGreat
open Go.RowKit Go.Sort
set_option maxRecDepth 100000
def clo (xs : List Int) (S : Nat) : Prop := ∀ b c, S.testBit b = true → (winsN xs b).testBit c = true → S.testBit c = true
theorem it_sup (xs : List Int) (n : Nat) : ∀ f S c, S.testBit c = true → (itN xs n f S).testBit c = true := by
  intro f
  induction f with
  | zero => intro S c h; exact h
  | succ f ih =>
    intro S c h
    rw [itN]
    split
    · exact h
    · exact ih _ _ (by rw [testBit_orK, h]; rfl)
theorem it_sub {xs : List Int} {n T : Nat} (hT : clo xs T) : ∀ f S, (∀ c, S.testBit c = true → T.testBit c = true) → ∀ c, (itN xs n f S).testBit c = true → T.testBit c = true := by
  intro f
  induction f with
  | zero => intro S h c hc; exact h c hc
  | succ f ih =>
    intro S h c hc
    rw [itN] at hc
    split at hc
    · exact h c hc
    · refine ih _ (fun d hd => ?_) c hc
      rw [testBit_orK, Bool.or_eq_true, List.any_eq_true] at hd
      rcases hd with hd | ⟨b, hb, hbd⟩
      · exact h d hd
      · exact hT b d (h b (mem_memN.1 hb).2) hbd
theorem it_fix {xs : List Int} {n : Nat} (hn : n ≤ 8) (hw : ∀ b, b < n → winsN xs b < 2 ^ n) : ∀ f S, S < 2 ^ n → 256 ≤ f + S → itN xs n f S < 2 ^ n ∧ orK xs (memN (itN xs n f S) n) (itN xs n f S) = itN xs n f S := by
  have hp := pow_le hn
  intro f
  induction f with
  | zero => intro S hS h; omega
  | succ f ih =>
    intro S hS h
    rw [itN]
    split
    · rename_i he; exact ⟨hS, he⟩
    · rename_i he
      have h1 := orK_ge xs (memN S n) S
      exact ih _ (orK_ltn hw (fun b hb => (mem_memN.1 hb).1) hS) (by omega)
theorem reach_facts {s : Int} {xs : List Int} (hp : tourP s xs) {a : Nat} (ha : a < xs.length) :
    (reachN xs a).testBit a = true ∧ clo xs (reachN xs a) ∧ (∀ T, clo xs T → T.testBit a = true → ∀ c, (reachN xs a).testBit c = true → T.testBit c = true) ∧ reachN xs a < 2 ^ xs.length := by
  have hn : xs.length ≤ 8 := by have := hp.1; have := hp.2.1; omega
  have hw : ∀ b, b < xs.length → winsN xs b < 2 ^ xs.length := fun b hb => by
    have := (tour_wins hp hb).2.1
    rwa [show s.toNat = xs.length by have := hp.2.1; omega] at this
  have h2 : 2 ^ a < 2 ^ xs.length := Nat.pow_lt_pow_right (by decide) ha
  have h34 : reachN xs a < 2 ^ xs.length ∧ orK xs (memN (reachN xs a) xs.length) (reachN xs a) = reachN xs a := it_fix hn hw 256 (2 ^ a) h2 (Nat.le_add_right _ _)
  obtain ⟨h3, h4⟩ := h34
  refine ⟨it_sup xs xs.length 256 (2 ^ a) a (by simp), fun b c hb hc => ?_, fun T hT hTa c hc => it_sub hT 256 (2 ^ a) (fun d hd => ?_) c hc, h3⟩
  · have hbn : b < xs.length := by
      rcases Nat.lt_or_ge b xs.length with h | h
      · exact h
      · rw [Nat.testBit_lt_two_pow (Nat.lt_of_lt_of_le h3 (Nat.pow_le_pow_right (by decide) h))] at hb; cases hb
    have : (orK xs (memN (reachN xs a) xs.length) (reachN xs a)).testBit c = true := by
      rw [testBit_orK, Bool.or_eq_true, List.any_eq_true]
      exact .inr ⟨b, mem_memN.2 ⟨hbn, hb⟩, hc⟩
    rwa [h4] at this
  · rw [Nat.testBit_two_pow] at hd
    have : a = d := by simpa using hd
    subst this; exact hTa
theorem sub_eq {A B : Nat} (h1 : ∀ c, A.testBit c = true → B.testBit c = true) (h2 : ∀ c, B.testBit c = true → A.testBit c = true) : A = B :=
  Nat.eq_of_testBit_eq fun c => by rw [Bool.eq_iff_iff]; exact ⟨h1 c, h2 c⟩
theorem bit_lt {S n c : Nat} (hS : S < 2 ^ n) (h : S.testBit c = true) : c < n := by
  rcases Nat.lt_or_ge c n with h1 | h1
  · exact h1
  · rw [Nat.testBit_lt_two_pow (Nat.lt_of_lt_of_le hS (Nat.pow_le_pow_right (by decide) h1))] at h; cases h
def scK (xs : List Int) (a : Nat) : Nat := popN 8 (winsN xs a)
/-- who beats all of another one's reach has the greater score -/
theorem score_up {s : Int} {xs : List Int} (hp : tourP s xs) {a d : Nat} (ha : a < xs.length) (hd : d < xs.length) (h : ∀ e, (reachN xs a).testBit e = true → (winsN xs d).testBit e = true) : scK xs a < scK xs d := by
  have hn : xs.length ≤ 8 := by have := hp.1; have := hp.2.1; omega
  obtain ⟨h1, h2, -, h4⟩ := reach_facts hp ha
  unfold scK
  rw [pop_mem (tour_wins hp ha).2.2, pop_mem (tour_wins hp hd).2.2]
  have h5 := card_less (S := reachN xs a) (n := 8) (b := a) (mem_memN.2 ⟨by omega, h1⟩)
  have h6 := card_mono (S := winsN xs a) (T := less (reachN xs a) (2 ^ a)) (n := 8) (fun j hj => by
    rw [testBit_less, h2 a j h1 hj, Nat.testBit_two_pow]
    by_cases e : a = j
    · subst e; rw [beat_self hp ha] at hj; cases hj
    · simp [e])
  have h7 := card_mono (S := reachN xs a) (T := winsN xs d) (n := 8) h
  omega
/-- who is not reached beats all that are -/
theorem beats_reach {s : Int} {xs : List Int} (hp : tourP s xs) {a d : Nat} (ha : a < xs.length) (hd : d < xs.length) (h : (reachN xs a).testBit d = false) : ∀ e, (reachN xs a).testBit e = true → (winsN xs d).testBit e = true := by
  intro e he
  obtain ⟨-, h2, -, h4⟩ := reach_facts hp ha
  have hen := bit_lt h4 he
  have hne : d ≠ e := by intro e'; subst e'; rw [he] at h; cases h
  rw [beat_one hp hd hen hne]
  rcases q : (winsN xs e).testBit d with _ | _
  · rfl
  · rw [h2 e d he q] at h; cases h
def topF (xs : List Int) (n S : Nat) : Nat := setOf (fun a => S.testBit a && reachN xs a == S) n
theorem testBit_topF (xs : List Int) (n S c : Nat) : (topF xs n S).testBit c = (decide (c < n) && (S.testBit c && reachN xs c == S)) := testBit_setOf _ _ _
def partsF (xs : List Int) (n : Nat) : Nat → Nat → List Nat
  | 0, _ => []
  | f + 1, S => if S = 0 then [] else topF xs n S :: partsF xs n f (less S (topF xs n S))
theorem top_some {s : Int} {xs : List Int} (hp : tourP s xs) {S : Nat} (hS : S < 2 ^ xs.length) (hc : clo xs S) : ∀ k a, S.testBit a = true → 8 - scK xs a ≤ k → ∃ b, S.testBit b = true ∧ reachN xs b = S := by
  intro k
  induction k with
  | zero =>
    intro a ha hk
    have han := bit_lt hS ha
    obtain ⟨-, -, h3, h4⟩ := reach_facts hp han
    refine ⟨a, ha, sub_eq (h3 S hc ha) fun d hd => ?_⟩
    rcases q : (reachN xs a).testBit d with _ | _
    · have h5 := score_up hp han (bit_lt hS hd) (beats_reach hp han (bit_lt hS hd) q)
      have h6 : scK xs d ≤ 8 := by unfold scK; rw [pop_mem (tour_wins hp (bit_lt hS hd)).2.2]; exact memN_len _ _
      omega
    · rfl
  | succ k ih =>
    intro a ha hk
    have han := bit_lt hS ha
    obtain ⟨-, -, h3, h4⟩ := reach_facts hp han
    by_cases he : reachN xs a = S
    · exact ⟨a, ha, he⟩
    · have : ∃ d, S.testBit d = true ∧ (reachN xs a).testBit d = false := by
        apply Classical.byContradiction
        intro hno
        refine he (sub_eq (h3 S hc ha) fun d hd => ?_)
        rcases q : (reachN xs a).testBit d with _ | _
        · exact absurd ⟨d, hd, q⟩ hno
        · rfl
      obtain ⟨d, hd, hq⟩ := this
      have h5 := score_up hp han (bit_lt hS hd) (beats_reach hp han (bit_lt hS hd) hq)
      have h6 : scK xs d ≤ 8 := by unfold scK; rw [pop_mem (tour_wins hp (bit_lt hS hd)).2.2]; exact memN_len _ _
      exact ih d hd (by omega)
theorem add_disj {A B : Nat} (hA : A < 2 ^ 62) (hB : B < 2 ^ 62) (h : A &&& B = 0) : A + B = A ||| B := by
  have h1 : A < 2 ^ 64 := Nat.lt_trans hA (by decide)
  have h2 : B < 2 ^ 64 := Nat.lt_trans hB (by decide)
  have hb : (BitVec.ofNat 64 A) &&& (BitVec.ofNat 64 B) = 0#64 := by
    apply BitVec.eq_of_toNat_eq
    rw [BitVec.toNat_and, BitVec.toNat_ofNat, BitVec.toNat_ofNat, Nat.mod_eq_of_lt h1, Nat.mod_eq_of_lt h2, h]
    rfl
  have e1 : (2 : Nat) ^ 62 = 4611686018427387904 := by decide
  have e3 : (2 : Nat) ^ 64 = 18446744073709551616 := by decide
  have hlt : A + B < 2 ^ 64 := by omega
  have h3 := congrArg BitVec.toNat (BitVec.add_eq_or_of_and_eq_zero _ _ hb)
  rw [BitVec.toNat_add, BitVec.toNat_or, BitVec.toNat_ofNat, BitVec.toNat_ofNat, Nat.mod_eq_of_lt h1, Nat.mod_eq_of_lt h2, Nat.mod_eq_of_lt hlt] at h3
  exact h3
theorem less_sub {S T : Nat} (hS : S < 256) (hT : T < 256) (h : ∀ c, T.testBit c = true → S.testBit c = true) : less S T + T = S := by
  have h1 : less S T &&& T = 0 := Nat.eq_of_testBit_eq fun c => by
    rw [Nat.testBit_and, testBit_less, Nat.zero_testBit]
    cases S.testBit c <;> cases T.testBit c <;> rfl
  have h2 : less S T ||| T = S := Nat.eq_of_testBit_eq fun c => by
    rw [Nat.testBit_or, testBit_less]
    rcases q : T.testBit c with _ | _
    · simp
    · rw [h c q]; simp
  have h3 : less S T < 2 ^ 8 := less_lt hS
  have e : (256 : Nat) < 2 ^ 62 := by decide
  rw [add_disj (by omega) (by omega) h1, h2]
theorem top_sub (xs : List Int) (n S : Nat) : ∀ c, (topF xs n S).testBit c = true → S.testBit c = true := fun c h => by
  rw [testBit_topF] at h
  simp at h
  exact h.2.1
theorem rest_lt {s : Int} {xs : List Int} (hp : tourP s xs) {S : Nat} (hS : S < 2 ^ xs.length) (hc : clo xs S) (h0 : S ≠ 0) : less S (topF xs xs.length S) < S := by
  have hn : xs.length ≤ 8 := by have := hp.1; have := hp.2.1; omega
  have hp8 := pow_le hn
  have hT : topF xs xs.length S < 256 := setOf_small _ hn
  have h1 := less_sub (by omega) hT (top_sub xs xs.length S)
  obtain ⟨a, ha⟩ := Nat.exists_testBit_of_ne_zero h0
  obtain ⟨b, hb, hr⟩ := top_some hp hS hc 8 a ha (by omega)
  have h2 : (topF xs xs.length S).testBit b = true := by rw [testBit_topF]; simp [bit_lt hS hb, hb, hr]
  have h3 : topF xs xs.length S ≠ 0 := by intro e; rw [e] at h2; simp at h2
  omega
theorem rest_clo {s : Int} {xs : List Int} (hp : tourP s xs) {S : Nat} (hS : S < 2 ^ xs.length) (hc : clo xs S) : clo xs (less S (topF xs xs.length S)) := by
  intro b c hb hbc
  rw [testBit_less, Bool.and_eq_true] at hb
  have hbn := bit_lt hS hb.1
  have hcS := hc b c hb.1 hbc
  have hcn := bit_lt hS hcS
  obtain ⟨b1, b2, b3, -⟩ := reach_facts hp hbn
  obtain ⟨c1, c2, c3, -⟩ := reach_facts hp hcn
  rw [testBit_less, hcS, Bool.true_and]
  rcases q : (topF xs xs.length S).testBit c with _ | _
  · rfl
  · rw [testBit_topF] at q
    have hrc : reachN xs c = S := by simp at q; exact q.2.2
    have hrb : reachN xs b = S := sub_eq (b3 S hc hb.1) fun d hd => by
      rw [← hrc] at hd
      exact c3 _ b2 (b2 b c b1 hbc) d hd
    have : (topF xs xs.length S).testBit b = true := by rw [testBit_topF]; simp [hbn, hb.1, hrb]
    rw [this] at hb
    simp at hb
theorem parts_fuel {s : Int} {xs : List Int} (hp : tourP s xs) : ∀ f g S, S < f → S < g → S < 2 ^ xs.length → clo xs S → partsF xs xs.length f S = partsF xs xs.length g S := by
  intro f
  induction f with
  | zero => intro g S h; omega
  | succ f ih =>
    intro g S hf hg hS hc
    obtain ⟨g, rfl⟩ : ∃ k, g = k + 1 := ⟨g - 1, by omega⟩
    rw [partsF, partsF]
    split
    · rfl
    · rename_i h0
      have h1 := rest_lt hp hS hc h0
      rw [ih g _ (by omega) (by omega) (by omega) (rest_clo hp hS hc)]
def partsN (xs : List Int) (S : Nat) : List Nat := partsF xs xs.length (S + 1) S
theorem partsN_zero (xs : List Int) : partsN xs 0 = [] := by simp [partsN, partsF]
theorem partsN_step {s : Int} {xs : List Int} (hp : tourP s xs) {S : Nat} (hS : S < 2 ^ xs.length) (hc : clo xs S) (h0 : S ≠ 0) : partsN xs S = topF xs xs.length S :: partsN xs (less S (topF xs xs.length S)) := by
  have h1 := rest_lt hp hS hc h0
  unfold partsN
  rw [partsF, if_neg h0, parts_fuel hp S (less S (topF xs xs.length S) + 1) _ (by omega) (by omega) (by omega) (rest_clo hp hS hc)]
/-- one more part, from the back -/
theorem part_more {s : Int} {xs : List Int} (hp : tourP s xs) {K x : Nat} (hK : K < 2 ^ xs.length) (hc : clo xs K) (hx : x < xs.length) (hn : K.testBit x = false) (hlow : ∀ y, y < xs.length → scK xs y < scK xs x → K.testBit y = true) :
    less (reachN xs x) K = topF xs xs.length (reachN xs x) ∧ K ||| reachN xs x = reachN xs x ∧ less (reachN xs x) (topF xs xs.length (reachN xs x)) = K := by
  obtain ⟨x1, x2, x3, x4⟩ := reach_facts hp hx
  have hA : ∀ c, K.testBit c = true → (reachN xs x).testBit c = true := fun c h => by
    have hcn := bit_lt hK h
    have hne : x ≠ c := by intro e; subst e; rw [h] at hn; cases hn
    refine x2 x c x1 ?_
    rw [beat_one hp hx hcn hne]
    rcases q : (winsN xs c).testBit x with _ | _
    · rfl
    · rw [hc c x h q] at hn; cases hn
  have hB : ∀ c, (reachN xs x).testBit c = true → (K.testBit c = true ↔ ¬ reachN xs c = reachN xs x) := fun c h => by
    have hcn := bit_lt x4 h
    obtain ⟨c1, c2, c3, -⟩ := reach_facts hp hcn
    constructor
    · intro hk e
      have := c3 K hc hk x (by rw [e]; exact x1)
      rw [this] at hn; cases hn
    · intro hne
      refine hlow c hcn (score_up hp hcn hx (beats_reach hp hcn hx ?_))
      rcases q : (reachN xs c).testBit x with _ | _
      · rfl
      · exact absurd (sub_eq (c3 _ x2 h) (x3 _ c2 q)) hne
  refine ⟨Nat.eq_of_testBit_eq fun c => ?_, Nat.eq_of_testBit_eq fun c => ?_, Nat.eq_of_testBit_eq fun c => ?_⟩
  · rw [testBit_less, testBit_topF]
    rcases q : (reachN xs x).testBit c with _ | _
    · simp
    · have h1 := hB c q
      have h2 := bit_lt x4 q
      rcases k : K.testBit c with _ | _
      · rw [k] at h1
        have : reachN xs c = reachN xs x := Classical.byContradiction fun hne => by have := h1.2 hne; cases this
        simp [h2, this]
      · rw [k] at h1
        have := h1.1 rfl
        simp [this]
  · rw [Nat.testBit_or]
    rcases k : K.testBit c with _ | _
    · rfl
    · rw [hA c k]; rfl
  · rw [testBit_less, testBit_topF]
    rcases q : (reachN xs x).testBit c with _ | _
    · rcases k : K.testBit c with _ | _
      · rfl
      · rw [hA c k] at q; cases q
    · have h1 := hB c q
      have h2 := bit_lt x4 q
      rcases k : K.testBit c with _ | _
      · rw [k] at h1
        have : reachN xs c = reachN xs x := Classical.byContradiction fun hne => by have := h1.2 hne; cases this
        simp [h2, this]
      · rw [k] at h1
        have := h1.1 rfl
        simp [this]
theorem or_clo {xs : List Int} {A B : Nat} (hA : clo xs A) (hB : clo xs B) : clo xs (A ||| B) := fun b c hb hc => by
  rw [Nat.testBit_or, Bool.or_eq_true] at hb ⊢
  rcases hb with hb | hb
  · exact .inl (hA b c hb hc)
  · exact .inr (hB b c hb hc)
end Go.Proofs.YtbkiedhaacapbaaGreat

namespace Go.Proofs.YtbkiedhaacapbaaGreat
open Go.RowKit Go.Sort

noncomputable def coverB (s : Int) (xs : List Int) (a b : Int) : Bool := beatB s xs a b && (bits BinOp.andNot IntKind.i64 (xs.getD b.toNat 0) (xs.getD a.toNat 0) == 0)

end Go.Proofs.YtbkiedhaacapbaaGreat

namespace Go.Proofs.YtbkiedhaacapbaaGreat
open Go.RowKit Go.Sort
set_option maxRecDepth 100000
section
variable {n : Nat} {xs : List Int}
theorem wins_n (hp : tourP n xs) {a : Nat} (ha : a < n) : winsN xs a < 2 ^ n := by
  have := (tour_wins hp (tour_len hp ▸ ha)).2.1
  rwa [show ((n : Int)).toNat = n from rfl] at this
theorem bt_hi (hp : tourP n xs) {a b : Nat} (ha : a < n) (hb : bt xs a b = true) : b < n := by
  rcases Nat.lt_or_ge b n with h | h
  · exact h
  · have := wins_hi hp (tour_len hp ▸ ha) (b := b) (by rw [tour_len hp]; exact h)
    unfold bt at hb
    rw [this] at hb; cases hb
/-- a king reaches everybody in two steps -/
theorem king_iff (hp : tourP n xs) {a : Nat} (ha : a < n) : kingN xs a = true ↔ ∀ c, c < n → c = a ∨ bt xs a c = true ∨ ∃ b, b < n ∧ bt xs a b = true ∧ bt xs b c = true := by
  have hl := tour_len hp
  have h8 : n ≤ 8 := by have := hp.1; omega
  have hb : ∀ c, (nearN xs a).testBit c = true ↔ (bt xs a c = true ∨ a = c) ∨ ∃ b, b < n ∧ bt xs a b = true ∧ bt xs b c = true := fun c => by
    unfold nearN
    rw [testBit_orK, Nat.testBit_or, Nat.testBit_two_pow]
    simp only [Bool.or_eq_true, decide_eq_true_eq, List.any_eq_true]
    constructor
    · rintro (h | ⟨b, hb, h⟩)
      · exact .inl h
      · have h2 := (mem_memN.1 hb).2
        exact .inr ⟨b, bt_hi hp ha h2, h2, h⟩
    · rintro (h | ⟨b, hb, h1, h2⟩)
      · exact .inl h
      · exact .inr ⟨b, mem_memN.2 ⟨by omega, h1⟩, h2⟩
  have hlt : nearN xs a < 2 ^ n := by
    have := orK_ltn (xs := xs) (fun b hb => by rw [hl]; exact wins_n hp (by rw [hl] at hb; exact hb)) (wins_mem hp (by omega : a < xs.length)) (S := winsN xs a ||| 2 ^ a) (by rw [hl]; exact Nat.or_lt_two_pow (wins_n hp ha) (Nat.pow_lt_pow_right (by decide) ha))
    rw [hl] at this
    exact this
  unfold kingN
  rw [hl, beq_iff_eq]
  constructor
  · intro e c hc
    have := hb c
    rw [e, testBit_full, decide_eq_true_eq] at this
    rcases this.1 hc with (h | h) | h
    · exact .inr (.inl h)
    · exact .inl h.symm
    · exact .inr (.inr h)
  · intro h
    refine Nat.eq_of_testBit_eq fun j => ?_
    rw [testBit_full]
    by_cases hj : j < n
    · rw [decide_eq_true hj]
      refine (hb j).2 ?_
      rcases h j hj with h | h | h
      · exact .inl (.inr h.symm)
      · exact .inl (.inl h)
      · exact .inr h
    · rw [decide_eq_false hj]
      exact Nat.testBit_lt_two_pow (Nat.lt_of_lt_of_le hlt (Nat.pow_le_pow_right (by decide) (by omega)))
theorem bt_flip (hp : tourP n xs) {a b : Nat} (ha : a < n) (hb : b < n) (hab : a ≠ b) : (bt xs a b = true ↔ bt xs b a = false) := by
  rw [(tr_bit hp ha hb).2 hab]
  cases bt xs b a <;> simp
theorem bt_asym (hp : tourP n xs) {a b : Nat} (ha : a < n) (hb : b < n) (h : bt xs a b = true) : bt xs b a = false ∧ a ≠ b := by
  have hab : a ≠ b := fun e => by rw [(tr_bit hp ha hb).1 e] at h; cases h
  exact ⟨(bt_flip hp ha hb hab).1 h, hab⟩
/-- c beats a, and all whom a beats -/
def cvN (xs : List Int) (n c a : Nat) : Prop := bt xs c a = true ∧ ∀ j, j < n → bt xs a j = true → bt xs c j = true
theorem king_cover (hp : tourP n xs) {a : Nat} (ha : a < n) : kingN xs a = false ↔ ∃ c, c < n ∧ cvN xs n c a := by
  constructor
  · intro hk
    have hk' : ¬ (∀ c, c < n → c = a ∨ bt xs a c = true ∨ ∃ b, b < n ∧ bt xs a b = true ∧ bt xs b c = true) := fun h => by rw [(king_iff hp ha).2 h] at hk; cases hk
    obtain ⟨c, hc⟩ := Classical.not_forall.1 hk'
    obtain ⟨hcn, h⟩ := Classical.not_imp.1 hc
    rw [not_or, not_or] at h
    obtain ⟨h1, h2, h3⟩ := h
    have hca : bt xs c a = true := (bt_flip hp hcn ha h1).2 (by simpa using h2)
    refine ⟨c, hcn, hca, fun j hj haj => ?_⟩
    have hcj : c ≠ j := fun e => by subst e; exact h2 haj
    refine (bt_flip hp hcn hj hcj).2 ?_
    rcases q : bt xs j c with _ | _
    · rfl
    · exact absurd ⟨j, hj, haj, q⟩ h3
  · rintro ⟨c, hc, h1, h2⟩
    rcases q : kingN xs a with _ | _
    · rfl
    · exfalso
      have hac := bt_asym hp hc ha h1
      rcases (king_iff hp ha).1 q c hc with h | h | ⟨b, hb, h3, h4⟩
      · exact hac.2 h
      · rw [hac.1] at h; cases h
      · have := h2 b hb h3
        rw [(bt_asym hp hb hc h4).1] at this; cases this
theorem kst_mem (hp : tourP n xs) {a b : Nat} : b ∈ loseN xs a xs.length ↔ b < n ∧ bt xs b a = true := by
  rw [mem_loseN, tour_len hp]
  constructor
  · rintro ⟨h1, h2⟩
    exact ⟨h1, by rw [← bitI_bt (tour_wins hp (by rw [tour_len hp]; exact h1)).1]; exact h2⟩
  · rintro ⟨h1, h2⟩
    exact ⟨h1, by rw [bitI_bt (tour_wins hp (by rw [tour_len hp]; exact h1)).1]; exact h2⟩
/-- the step: to a king who beats a, if anybody does -/
theorem kst_king (hp : tourP n xs) {a : Nat} (ha : a < n) (hex : ∃ b, b < n ∧ bt xs b a = true) : kstepN xs a < n ∧ bt xs (kstepN xs a) a = true ∧ kingN xs (kstepN xs a) = true := by
  have hself : a ∉ loseN xs a xs.length := fun h => by have := (kst_mem hp).1 h; rw [(tr_bit hp ha ha).1 rfl] at this; cases this.2
  rcases kstK_best (xs := xs) hself with ⟨e, _⟩ | ⟨hm, hx⟩
  · obtain ⟨b, hb, h⟩ := hex
    have := (kst_mem hp).2 ⟨hb, h⟩
    rw [e] at this; cases this
  · have hm' := (kst_mem hp).1 hm
    change kstepN xs a < n ∧ _ at hm'
    refine ⟨hm'.1, hm'.2, ?_⟩
    rcases q : kingN xs (kstepN xs a) with _ | _
    · exfalso
      obtain ⟨c, hc, h1, h2⟩ := (king_cover hp hm'.1).1 q
      have hca := h2 a ha hm'.2
      have h3 : popN 8 (winsN xs c) ≤ popN 8 (winsN xs (kstepN xs a)) := hx c ((kst_mem hp).2 ⟨hc, hca⟩)
      have e1 := sc_sum hp hc
      have e2 := sc_sum hp hm'.1
      have hle : sumN (fun b => if bt xs (kstepN xs a) b = true then (1 : Int) else 0) n + 1 ≤ sumN (fun b => if bt xs c b = true then (1 : Int) else 0) n := by
        have e3 : sumN (fun b => (if bt xs (kstepN xs a) b = true then (1 : Int) else 0) + (if b = kstepN xs a then 1 else 0)) n = sumN (fun b => if bt xs (kstepN xs a) b = true then (1 : Int) else 0) n + 1 := by
          rw [sumN_add, sumN_one hm'.1 (fun k _ hk => if_neg hk), if_pos rfl]
        rw [← e3]
        have : ∀ m, m ≤ n → sumN (fun b => (if bt xs (kstepN xs a) b = true then (1 : Int) else 0) + (if b = kstepN xs a then 1 else 0)) m ≤ sumN (fun b => if bt xs c b = true then (1 : Int) else 0) m := by
          intro m
          induction m with
          | zero => intro _; simp [sumN]
          | succ m ih =>
            intro hm
            have ih := ih (by omega)
            rw [sumN, sumN]
            have : (if bt xs (kstepN xs a) m = true then (1 : Int) else 0) + (if m = kstepN xs a then 1 else 0) ≤ if bt xs c m = true then (1 : Int) else 0 := by
              by_cases e : m = kstepN xs a
              · rw [if_pos e, e, (tr_bit hp hm'.1 hm'.1).1 rfl, if_pos h1]; simp
              · rw [if_neg e]
                rcases q2 : bt xs (kstepN xs a) m with _ | _
                · simp; split <;> omega
                · rw [h2 m (by omega) q2]; simp
            omega
        exact this n (Nat.le_refl _)
      rw [← e1, ← e2] at hle
      unfold scN at hle
      omega
    · rfl
theorem kst_none {a : Nat} (hp : tourP n xs) (hno : ∀ b, b < n → bt xs b a = false) : kstepN xs a = a := by
  have : loseN xs a xs.length = [] := List.eq_nil_iff_forall_not_mem.2 fun b hb => by
    have := (kst_mem hp).1 hb
    rw [hno b this.1] at this; cases this.2
  unfold kstepN
  rw [this]
  rfl
/-- the set of kings -/
def kgS (xs : List Int) (n : Nat) : Nat := setOf (fun a => kingN xs a) n
theorem kg_bit {a : Nat} : (kgS xs n).testBit a = true ↔ a < n ∧ kingN xs a = true := by
  unfold kgS
  rw [testBit_setOf]
  simp
theorem kg_lt : kgS xs n < 2 ^ n := setOf_lt _ _
/-- a sovereign beats everybody -/
def svP (xs : List Int) (n a : Nat) : Prop := a < n ∧ ∀ b, b < n → bt xs b a = false
theorem sv_score (hp : tourP n xs) {a : Nat} (ha : a < n) : scN xs a = n - 1 ↔ svP xs n a := by
  have h := by_sum hp ha
  constructor
  · intro e
    have h0 : sumN (fun b => if bt xs b a = true then (1 : Int) else 0) n = 0 := by omega
    refine ⟨ha, fun b hb => ?_⟩
    rcases q : bt xs b a with _ | _
    · rfl
    · exfalso
      have h1 : sumN (fun k => if k = b then (1 : Int) else 0) n ≤ sumN (fun b => if bt xs b a = true then (1 : Int) else 0) n := by
        have : 0 ≤ sumN (fun k => (if bt xs k a = true then (1 : Int) else 0) - if k = b then 1 else 0) n := sumN_nonneg fun k hk => by
          by_cases e : k = b
          · subst e; rw [q]; simp
          · rw [if_neg e]; split <;> omega
        rw [sumN_sub] at this
        omega
      rw [sumN_one hb (fun k _ hk => if_neg hk), if_pos rfl] at h1
      omega
  · rintro ⟨-, h1⟩
    have h0 : sumN (fun b => if bt xs b a = true then (1 : Int) else 0) n = 0 := sumN_zero' fun b hb => by rw [h1 b hb]; rfl
    omega
theorem sv_king (hp : tourP n xs) {a : Nat} (h : svP xs n a) : ∀ b, b < n → (kingN xs b = true ↔ b = a) := by
  intro b hb
  have hall : ∀ c, c < n → c ≠ a → bt xs a c = true := fun c hc hca => (bt_flip hp h.1 hc (Ne.symm hca)).2 (h.2 c hc)
  constructor
  · intro hk
    refine Classical.byContradiction fun hba => ?_
    rcases (king_iff hp hb).1 hk a h.1 with e | e | ⟨c, hc, -, e⟩
    · exact hba e.symm
    · rw [h.2 b hb] at e; cases e
    · rw [h.2 c hc] at e; cases e
  · rintro rfl
    refine (king_iff hp hb).2 fun c hc => ?_
    by_cases e : c = b
    · exact .inl e
    · exact .inr (.inl (hall c hc e))
theorem king_ex (hp : tourP n xs) : ∃ a, a < n ∧ kingN xs a = true := by
  have hn : 0 < n := by have := hp.1; omega
  by_cases h : ∃ b, b < n ∧ bt xs b 0 = true
  · have := kst_king hp hn h
    exact ⟨_, this.1, this.2.2⟩
  · have hs : svP xs n 0 := ⟨hn, fun b hb => by
      rcases q : bt xs b 0 with _ | _
      · rfl
      · exact absurd ⟨b, hb, q⟩ h⟩
    exact ⟨0, hn, (sv_king hp hs 0 hn).2 rfl⟩
theorem three_len {l : List Nat} {a b c : Nat} (ha : a ∈ l) (hb : b ∈ l) (hc : c ∈ l) (h1 : a ≠ b) (h2 : a ≠ c) (h3 : b ≠ c) : 3 ≤ l.length := by
  have e1 := List.length_erase_of_mem ha
  have hb' : b ∈ l.erase a := (List.mem_erase_of_ne (Ne.symm h1)).2 hb
  have hc' : c ∈ l.erase a := (List.mem_erase_of_ne (Ne.symm h2)).2 hc
  have e2 := List.length_erase_of_mem hb'
  have hc'' : c ∈ (l.erase a).erase b := (List.mem_erase_of_ne (Ne.symm h3)).2 hc'
  have e3 := List.length_pos_of_mem hc''
  omega
/-- one king, who is the sovereign, or three at least -/
theorem king_three (hp : tourP n xs) (hno : ∀ a, ¬ svP xs n a) : 3 ≤ popN 8 (kgS xs n) := by
  have h8 : n ≤ 8 := by have := hp.1; omega
  have hdom : ∀ a, a < n → ∃ b, b < n ∧ bt xs b a = true := fun a ha => by
    refine Classical.byContradiction fun h => hno a ⟨ha, fun b hb => ?_⟩
    rcases q : bt xs b a with _ | _
    · rfl
    · exact absurd ⟨b, hb, q⟩ h
  obtain ⟨a, ha, ka⟩ := king_ex hp
  obtain ⟨hb, ba, kb⟩ := kst_king hp ha (hdom a ha)
  generalize kstepN xs a = b at *
  obtain ⟨hc, cb, kc⟩ := kst_king hp hb (hdom b hb)
  generalize kstepN xs b = c at *
  have h256 : kgS xs n < 256 := Nat.lt_of_lt_of_le kg_lt (Nat.pow_le_pow_right (n := 2) (j := 8) (by decide) h8)
  rw [pop_mem h256]
  have hca : c ≠ a := fun e => by subst e; rw [(bt_asym hp hc hb cb).1] at ba; cases ba
  exact three_len (a := a) (b := b) (c := c) (mem_memN.2 ⟨by omega, kg_bit.2 ⟨ha, ka⟩⟩) (mem_memN.2 ⟨by omega, kg_bit.2 ⟨hb, kb⟩⟩) (mem_memN.2 ⟨by omega, kg_bit.2 ⟨hc, kc⟩⟩) (Ne.symm (bt_asym hp hb ha ba).2) (Ne.symm hca) (Ne.symm (bt_asym hp hc hb cb).2)
theorem sv_kings (hp : tourP n xs) {a : Nat} (h : svP xs n a) : kgS xs n = 2 ^ a := by
  refine Nat.eq_of_testBit_eq fun j => ?_
  rw [Nat.testBit_two_pow]
  rw [Bool.eq_iff_iff, kg_bit, decide_eq_true_eq]
  constructor
  · rintro ⟨hj, hk⟩; exact ((sv_king hp h j hj).1 hk).symm
  · rintro rfl; exact ⟨h.1, (sv_king hp h a h.1).2 rfl⟩
theorem pop_pow {a : Nat} (h : a < 8) : popN 8 (2 ^ a) = 1 := by
  have : ∀ a : Fin 8, popN 8 (2 ^ a.1) = 1 := by decide
  exact this ⟨a, h⟩
end
end Go.Proofs.YtbkiedhaacapbaaGreat

namespace Go.Proofs.YtbkiedhaacapbaaGreat
open Go.RowKit Go.Sort
set_option maxRecDepth 100000
def ctN : Nat → Nat
  | 1 => 0x0
  | 2 => 0x2
  | 3 => 0x4
  | 4 => 0x4000e08
  | 5 => 0x8000800081e1c10
  | 6 => 0x800000000000000000000000008080000000000000000000010001c00000010001000100010003e3e3e3e103e103e103c3820
  | 7 => 0x80000000000000000000000000000000000000000000000000000000000000000000000000000000000000010000000000000000000000000000000000000000000000000000000000000000000000010000000000000000000101000000000000000000000000000001000000000100000000000100000000000101000000000000000000000000000000000000000000000000000000000000000000000000000000000000000000000100000000000000000000000000000000000000000000000000000000000000000000000000000000000100000000000000000001000000000001000000000000000000010000000000010000000000010100000000000001010000000000000101000000000000010100000000000001010000000000000000000000000000010100000000000000000000020000000000020002000200010003c0000000000000010000000000010100000000000003800000020002000200020003800000020002000200020007e7e7e7e7e107e7e7e7e7e7e7e7e7e7e7e7e10107e7e7e7e7e7e7e7e7e7e207e387e7e7e207e207e207e207e7c7c7c7c207c207c20787040
  | _ => 0
def ct (n j : Nat) : Nat := (ctN n >>> (8 * j)) % 256
/-- a set that beats all others -/
def ctOk (n T S : Nat) : Bool := Nat.blt 0 S && Nat.blt S (2 ^ n - 1) && (List.range n).all fun a => (List.range n).all fun b => !(S.testBit a) || S.testBit b || bN T a b
/-- a way goes on to one that comes back; the way is written backwards -/
def cyF (T n a : Nat) : Nat → List Nat → Bool
  | 0, way => bN T (way.headD 0) a
  | m + 1, way => (List.range n).any fun b => bN T (way.headD 0) b && (!(way.contains b) && cyF T n a m (b :: way))
theorem cyc_all : ∀ n, n < 7 → ((List.range (rc n)).all fun j => ctOk n (rp n j) (ct n j) || (List.range n).all fun a => (List.range (n - 2)).all fun k => cyF (rp n j) n a (k + 2) [a]) = true := by decide +kernel
theorem ham_all : ∀ n, n < 8 → 3 ≤ n → ((List.range (rc n)).all fun j => ctOk n (rp n j) (ct n j) || cyF (rp n j) n 0 (n - 1) [0]) = true := by decide +kernel
end Go.Proofs.YtbkiedhaacapbaaGreat

namespace Go.Proofs.YtbkiedhaacapbaaGreat
open Go.RowKit Go.Sort
set_option maxRecDepth 100000

theorem wp_appendN {ops : Array Oper} {rest : List Oper} {o : Oper} {a : Act} {Q : Exit → Act → World → Prop} (w : World) (hgd : o.guard = none) (s x : Operand)
    (ho : o.op = .call { callee := .builtin .append, args := #[s, x], argTypes := #[23, 23] })
    (base : Nat) (v : Value) (xs : List Int) (hs : a.eval s = v) (hown : Own w base v xs) (ad : Addr) (c : Nat) (ys : List Int) (hx : a.eval x = .slice (some ad) ys.length c)
    (hc : ∀ k, k < ys.length → w.cell? (ad.add k) = some (.int .i64 (ys.getD k 0)))
    (hlen : xs.length + ys.length ≤ 1099511627776) (hbase : base ≤ w.heap.size)
    (h : ∀ v' w', Own w' base v' (xs ++ ys) → w.grownBy w' v.ownBlock → wpList Tryz.prog ops Q rest (a.put o.dst v') w') :
    wpList Tryz.prog ops Q (o :: rest) a w := by
  obtain ⟨i0, hi, hz0, hz1, hz2⟩ := info_parts i64_info
  have hown' : w.ownsRow base 3 1 v xs.length (xs.map (Value.int .i64)) := hown
  refine wpList_append_own _ hgd s x 23 ho base 3 i0 (.int .i64 0) 1 8 Tryz.underlying23 hi hz0 hz1 hz2 rfl (by decide) v xs.length (xs.map (Value.int .i64)) hs hown' ad ys.length c (ys.map (Value.int .i64)) hx (by simp) ?_ ?_ ?_ ?_ ?_ ?_
  · intro j u hj
    have hjl : j < ys.length := by simpa using (List.getElem?_eq_some_iff.1 hj).1
    rw [hc j hjl]
    simp [hjl] at hj
    simp [hjl, hj]
  · intro u hu; simp at hu; obtain ⟨y, -, rfl⟩ := hu; rfl
  · unfold maxLen; omega
  · omega
  · exact hbase
  · intro v' w' h1 h2 _
    refine h v' w' ?_ h2
    unfold Own
    rw [List.length_append, List.map_append]
    exact h1
set_option maxHeartbeats 400000 in
theorem clone_any (v : Value) (xs : List Int) (w : World) (h : Rd w v xs) (h0 : 0 < xs.length) (hl : xs.length ≤ 1048576) :
    Calls Tryz.prog 74 #[v] w fun e w' => ∃ v', e = .returned v' ∧ Own w' w.heap.size v' xs ∧ Below w.heap.size w w' := by
  obtain ⟨A, c, rfl, hlc, hm, hc⟩ := h
  obtain ⟨g, off, rfl, hg, hx⟩ := hc h0
  have hx' : ∀ k, k < xs.length → (w.alloc (.cells #[] 3)).cell? ((⟨g, off, none⟩ : Addr).add k) = some (.int .i64 (xs.getD k 0)) := fun k hk => by
    rw [Addr.add_lit, World.cell?_alloc_lt _ _ _ (by exact hg)]
    exact hx k hk
  have HX := Lib.hid hx'
  have ho := Own.lit w w.heap.size [] (Nat.le_refl _) (by simp)
  have HO := Lib.hid ho
  clear hx hx' hc ho
  generalize hn : xs.length = n at *
  have HN := Lib.hid hn
  have e0 : ∀ w : World, (binOp .eql 23 (.slice (some ⟨g, off, none⟩) n c) (.slice none 0 0)).run Tryz.prog w = .ok (.bool false) w := fun _ => by kernel_rfl
  go_enter Tryz.func74, Tryz.ntmps74
  go_wp2_with (at_builtin; refine wp_appendN (w.alloc (.cells #[] 3)) rfl (.tmp 5) (.tmp 6) rfl w.heap.size _ [] rfl HO.out ⟨g, off, none⟩ c xs (by rw [hn]; simp [Act.eval]) (by rw [hn]; exact HX.out) (by simp; omega) (by simp) ?_; intro v' w' ho hgr; have HO2 := Lib.hid ho; have HG2 := Lib.hid hgr; clear ho hgr)
  go_ret
  exact ⟨_, rfl, by simpa using HO2.out, Below.grown (below_alloc1 w _) HG2.out (by simp) (fun k hk => (HO.out.lt k hk).1)⟩
end Go.Proofs.YtbkiedhaacapbaaGreat

