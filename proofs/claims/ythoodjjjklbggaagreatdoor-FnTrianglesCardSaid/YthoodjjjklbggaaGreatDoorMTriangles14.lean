/- Texts put together: OrdP, WyP, ArP, Cond, KgF, StK, WayOn, HofR, Lok, Thr, Lev, Idx, Parts, Revs, PartO, Cyc, StP, ThrS, WBi, StC. -/
import Derived.Test.YthoodjjjklbggaaGreatDoorMTriangles08
import Derived.Test.YthoodjjjklbggaaGreatDoorMTriangles04
import Derived.Test.YthoodjjjklbggaaGreatDoorMTriangles03
import Derived.Test.YthoodjjjklbggaaGreatDoorMTriangles13
import Derived.Test.YthoodjjjklbggaaGreatDoorMTriangles11
import Derived.Test.YthoodjjjklbggaaGreatDoorMTriangles02
import Derived.Test.YthoodjjjklbggaaGreatDoorMTriangles07
import Derived.Test.YthoodjjjklbggaaGreatDoorMTriangles01
import Derived.Lib.SliceRun
import Derived.Deep.RegionLaw
import Derived.Test.YthoodjjjklbggaaGreatDoorMTriangles10
namespace Go.Proofs.YthoodjjjklbggaaGreatDoor
open Go.RowKit Go.Sort
set_option maxRecDepth 100000
theorem perm_sum (F : Nat → Int) {l m : List Nat} (h : l.Perm m) : (l.map F).sum = (m.map F).sum := by
  induction h with
  | nil => rfl
  | cons x _ ih => simp only [List.map_cons, List.sum_cons, ih]
  | swap x y l => simp only [List.map_cons, List.sum_cons]; omega
  | trans _ _ h1 h2 => rw [h1, h2]
theorem perm_full : ∀ (q m : List Nat), q.Nodup → (∀ x ∈ q, x ∈ m) → m.length ≤ q.length → q.Perm m := by
  intro q
  induction q with
  | nil =>
    intro m _ _ h
    have : m = [] := List.eq_nil_of_length_eq_zero (by simpa using h)
    rw [this]
  | cons a q ih =>
    intro m hn hs hl
    have ha : a ∈ m := hs a (by simp)
    rw [List.nodup_cons] at hn
    have h1 : (m.erase a).length ≤ q.length := by
      rw [List.length_erase_of_mem ha]
      simp only [List.length_cons] at hl
      omega
    have h2 := ih (m.erase a) hn.2 (fun x hx => (List.mem_erase_of_ne (fun e => by subst e; exact hn.1 hx)).2 (hs x (by simp [hx]))) h1
    exact (h2.cons a).trans (List.perm_cons_erase ha).symm
theorem ord_perm {n : Nat} {q : List Nat} (hq : q ∈ ordL n) : q.Perm (List.range n) := by
  obtain ⟨h1, h2, h3⟩ := mem_ordL.1 hq
  exact perm_full q _ h3 (fun x hx => List.mem_range.2 (h2 x hx)) (by rw [List.length_range, h1]; exact Nat.le_refl _)
theorem ord_sum {n : Nat} {q : List Nat} (hq : q ∈ ordL n) (F : Nat → Int) : sumN F n = sumN (fun i => F (q.getD i 0)) n := by
  obtain ⟨h1, h2, h3⟩ := mem_ordL.1 hq
  have hperm : q.Perm (List.range n) := ord_perm hq
  rw [← map_sumN, ← perm_sum F hperm, list_sumN, List.length_map, h1]
  refine sumN_congr fun i hi => ?_
  have : i < q.length := by omega
  simp [List.getD_eq_getElem?_getD, this]
theorem ord_at {n : Nat} {q : List Nat} (hq : q ∈ ordL n) : (∀ i, i < n → q.getD i 0 < n) ∧ (∀ i k, i < n → k < n → q.getD i 0 = q.getD k 0 → i = k) ∧ ∀ b, b < n → ∃ k, k < n ∧ q.getD k 0 = b := by
  obtain ⟨h1, h2, h3⟩ := mem_ordL.1 hq
  refine ⟨fun i hi => h2 _ (by rw [getD_nat (by omega)]; exact List.getElem_mem _), fun i k hi hk e => ?_, fun b hb => ?_⟩
  · rw [getD_nat (by omega), getD_nat (by omega)] at e
    exact (List.getElem_inj h3).1 e
  · have : b ∈ q := (ord_perm hq).mem_iff.2 (List.mem_range.2 hb)
    obtain ⟨k, hk, rfl⟩ := List.getElem_of_mem this
    exact ⟨k, by omega, getD_nat hk⟩
end Go.Proofs.YthoodjjjklbggaaGreatDoor

namespace Go.Proofs.YthoodjjjklbggaaGreatDoor
open Go.RowKit Go.Sort
set_option maxRecDepth 100000
theorem len_leG {α : Type} [DecidableEq α] : ∀ {q m : List α}, q.Nodup → (∀ x ∈ q, x ∈ m) → q.length ≤ m.length := by
  intro q
  induction q with
  | nil => intro m _ _; simp
  | cons a q ih =>
    intro m hn hs
    have ha : a ∈ m := hs a (by simp)
    rw [List.nodup_cons] at hn
    have := ih (m := m.erase a) hn.2 fun x hx => (List.mem_erase_of_ne (fun e => by subst e; exact hn.1 hx)).2 (hs x (by simp [hx]))
    rw [List.length_erase_of_mem ha] at this
    have := List.length_pos_of_mem ha
    simp only [List.length_cons]
    omega
theorem perm_fullG {α : Type} [DecidableEq α] : ∀ {q m : List α}, q.Nodup → (∀ x ∈ q, x ∈ m) → m.length ≤ q.length → q.Perm m := by
  intro q
  induction q with
  | nil =>
    intro m _ _ h
    have : m = [] := List.eq_nil_of_length_eq_zero (by simpa using h)
    rw [this]
  | cons a q ih =>
    intro m hn hs hl
    have ha : a ∈ m := hs a (by simp)
    rw [List.nodup_cons] at hn
    have h1 : (m.erase a).length ≤ q.length := by
      rw [List.length_erase_of_mem ha]
      simp only [List.length_cons] at hl
      omega
    have h2 := ih (m := m.erase a) hn.2 (fun x hx => (List.mem_erase_of_ne (fun e => by subst e; exact hn.1 hx)).2 (hs x (by simp [hx]))) h1
    exact (h2.cons a).trans (List.perm_cons_erase ha).symm
/-- the ways from a through all of S whose last player is in Q -/
def wyQ (r : Nat → Nat → Bool) (Q : Nat → Bool) (n : Nat) : Nat → Nat → Nat → Nat
  | 0, _, a => if Q a then 1 else 0
  | f + 1, S, a => if S = 0 then (if Q a then 1 else 0) else (((List.range n).filter fun b => S.testBit b && r a b).map fun b => wyQ r Q n f (less S (2 ^ b)) b).sum
theorem waysN_wyQ (xs : List Int) (n : Nat) : ∀ f S a, waysN xs n f S a = wyQ (bt xs) (fun _ => true) n f S a := by
  intro f
  induction f with
  | zero => intro S a; rfl
  | succ f ih =>
    intro S a
    rw [waysN, wyQ]
    split
    · rfl
    · have e : memN (S &&& winsN xs a) n = (List.range n).filter fun b => S.testBit b && bt xs a b := by
        unfold memN
        refine List.filter_congr fun x _ => ?_
        rw [Nat.testBit_and]
      rw [e]
      congr 1
      exact List.map_congr_left fun b _ => ih _ _
/-- each beats the next one -/
def chn (r : Nat → Nat → Bool) : Nat → List Nat → Bool
  | _, [] => true
  | a, b :: l => r a b && chn r b l
def way (r : Nat → Nat → Bool) : List Nat → Bool
  | [] => true
  | a :: l => chn r a l
theorem chn_snoc (r : Nat → Nat → Bool) (b : Nat) : ∀ (l : List Nat) (a : Nat), chn r a (l ++ [b]) = (chn r a l && r (lastN (a :: l)) b) := by
  intro l
  induction l with
  | nil => intro a; simp [chn, lastN]
  | cons x l ih =>
    intro a
    rw [List.cons_append, chn, chn, ih, Bool.and_assoc]
    have : lastN (a :: x :: l) = lastN (x :: l) := by simp [lastN]
    rw [this]
theorem way_snoc (r : Nat → Nat → Bool) (b : Nat) {l : List Nat} (h : l ≠ []) : way r (l ++ [b]) = (way r l && r (lastN l) b) := by
  cases l with
  | nil => exact absurd rfl h
  | cons a l => exact chn_snoc r b l a
theorem lastN_snoc' (l : List Nat) (b : Nat) : lastN (l ++ [b]) = b := by simp [lastN]
theorem way_iff (r : Nat → Nat → Bool) : ∀ l : List Nat, way r l = true ↔ ∀ i, i + 1 < l.length → r (l.getD i 0) (l.getD (i + 1) 0) = true := by
  intro l
  cases l with
  | nil => simp [way]
  | cons a l =>
    show chn r a l = true ↔ _
    induction l generalizing a with
    | nil => simp [chn]
    | cons b l ih =>
      rw [chn, Bool.and_eq_true, ih]
      constructor
      · rintro ⟨h1, h2⟩ i hi
        cases i with
        | zero => exact h1
        | succ i => exact h2 i (by simpa using hi)
      · intro h
        exact ⟨h 0 (by simp), fun i hi => h (i + 1) (by simpa using hi)⟩
theorem countP_flatMap' {α β : Type} (p : β → Bool) (f : α → List β) : ∀ l : List α, (l.flatMap f).countP p = (l.map fun x => (f x).countP p).sum := by
  intro l
  induction l with
  | nil => rfl
  | cons x l ih => rw [List.flatMap_cons, List.countP_append, List.map_cons, List.sum_cons, ih]
theorem sum_filter_zero {l : List Nat} {p : Nat → Bool} {F : Nat → Nat} (h : ∀ x ∈ l, p x = false → F x = 0) : (l.map F).sum = ((l.filter p).map F).sum := by
  induction l with
  | nil => rfl
  | cons x l ih =>
    have h1 := ih fun y hy => h y (by simp [hy])
    rw [List.map_cons, List.sum_cons, List.filter_cons, h1]
    rcases q : p x with _ | _
    · rw [h x (by simp) q]; simp
    · simp
theorem setW_less_snoc {n : Nat} {pre : List Nat} {b : Nat} : less (2 ^ n - 1) (setW (pre ++ [b])) = less (less (2 ^ n - 1) (setW pre)) (2 ^ b) := Nat.eq_of_testBit_eq fun j => by
  rw [testBit_less, testBit_less, testBit_less, setW_snoc, Nat.testBit_or]
  cases (2 ^ n - 1).testBit j <;> cases (setW pre).testBit j <;> cases (2 ^ b).testBit j <;> rfl
/-- the number of ways is a count of orders -/
theorem count_from {r : Nat → Nat → Bool} {Q : Nat → Bool} {n : Nat} : ∀ (m : Nat) (pre : List Nat), pre ≠ [] → pre.Nodup → (∀ x ∈ pre, x < n) → pre.length + m = n →
    (ordFrom n m pre).countP (fun l => way r l && Q (lastN l)) = if way r pre = true then wyQ r Q n m (less (2 ^ n - 1) (setW pre)) (lastN pre) else 0 := by
  intro m
  induction m with
  | zero =>
    intro pre hne hnd hlt hl
    rw [ordFrom, List.countP_cons, List.countP_nil, wyQ, Nat.zero_add]
    cases way r pre <;> simp
  | succ m ih =>
    intro pre hne hnd hlt hl
    rw [ordFrom, countP_flatMap']
    have hS : less (2 ^ n - 1) (setW pre) ≠ 0 := by
      intro h0
      have hall : ∀ b, b < n → b ∈ pre := fun b hb => by
        have := congrArg (fun z => z.testBit b) h0
        simp only [testBit_less, Nat.zero_testBit, testBit_full, testBit_setW, decide_eq_true hb, Bool.true_and, Bool.not_eq_eq_eq_not, Bool.not_false] at this
        simpa using this
      have := len_leG (q := List.range n) (m := pre) List.nodup_range fun x hx => hall x (List.mem_range.1 hx)
      rw [List.length_range] at this
      omega
    have hstep : ∀ b ∈ (List.range n).filter fun b => !pre.contains b, (ordFrom n m (pre ++ [b])).countP (fun l => way r l && Q (lastN l)) = if (way r pre && r (lastN pre) b) = true then wyQ r Q n m (less (less (2 ^ n - 1) (setW pre)) (2 ^ b)) b else 0 := by
      intro b hb
      rw [List.mem_filter, List.mem_range] at hb
      have hb2 : b ∉ pre := by simpa using hb.2
      rw [ih (pre ++ [b]) (by simp) (List.nodup_append.2 ⟨hnd, by simp, fun x hx y hy => by simp at hy; subst hy; intro e; subst e; exact hb2 hx⟩) (fun x hx => by
        rcases List.mem_append.1 hx with h | h
        · exact hlt x h
        · simp at h; subst h; exact hb.1) (by rw [List.length_append, List.length_singleton]; omega), way_snoc r b hne, setW_less_snoc, lastN_snoc']
    rw [List.map_congr_left hstep]
    rcases q : way r pre with _ | _
    · rw [if_neg (by decide)]
      have : ∀ l : List Nat, (l.map fun b => if (false && r (lastN pre) b) = true then wyQ r Q n m (less (less (2 ^ n - 1) (setW pre)) (2 ^ b)) b else 0).sum = 0 := by
        intro l
        induction l with
        | nil => rfl
        | cons x l ih => rw [List.map_cons, List.sum_cons, ih]; rfl
      exact this _
    · rw [if_pos rfl, wyQ, if_neg hS]
      rw [sum_filter_zero (p := fun b => r (lastN pre) b) (fun x _ hx => by rw [hx]; rfl), List.filter_filter]
      congr 1
      have hf : ((List.range n).filter fun b => r (lastN pre) b && !pre.contains b) = (List.range n).filter fun b => (less (2 ^ n - 1) (setW pre)).testBit b && r (lastN pre) b := by
        refine List.filter_congr fun b hb => ?_
        rw [testBit_less, testBit_full, decide_eq_true (List.mem_range.1 hb), testBit_setW, Bool.true_and, Bool.and_comm]
      rw [hf]
      refine List.map_congr_left fun b hb => ?_
      rw [List.mem_filter, Bool.and_eq_true] at hb
      rw [hb.2.2]; rfl
/-- how many orders are ways that end in Q -/
def cntQ (r : Nat → Nat → Bool) (Q : Nat → Bool) (n : Nat) : Nat := (ordL n).countP fun l => way r l && Q (lastN l)
theorem ordL_heads {n : Nat} (h1 : 1 ≤ n) : ordL n = (List.range n).flatMap fun a => ordFrom n (n - 1) [a] := by
  obtain ⟨m, rfl⟩ : ∃ m, n = m + 1 := ⟨n - 1, by omega⟩
  unfold ordL
  rw [ordFrom]
  have : ((List.range (m + 1)).filter fun b => !([] : List Nat).contains b) = List.range (m + 1) := by
    rw [List.filter_eq_self]; intro a _; rfl
  rw [this]
  rfl
theorem setW_one (a : Nat) : setW [a] = 2 ^ a := by simp [setW]
theorem cnt_sum {r : Nat → Nat → Bool} {Q : Nat → Bool} {n : Nat} (h1 : 1 ≤ n) : cntQ r Q n = ((List.range n).map fun a => wyQ r Q n (n - 1) (less (2 ^ n - 1) (2 ^ a)) a).sum := by
  unfold cntQ
  rw [ordL_heads h1, countP_flatMap']
  congr 1
  refine List.map_congr_left fun a ha => ?_
  have ha := List.mem_range.1 ha
  rw [count_from (n - 1) [a] (by simp) (by simp) (fun x hx => by simp at hx; omega) (by simp; omega), if_pos (show way r [a] = true from rfl), setW_one]
  rfl
/-- more steps than players change nothing -/
theorem wyQ_fuel {r : Nat → Nat → Bool} {Q : Nat → Bool} {n : Nat} : ∀ f g S a, S < 2 ^ n → (memN S n).length ≤ f → (memN S n).length ≤ g → wyQ r Q n f S a = wyQ r Q n g S a := by
  intro f
  induction f with
  | zero =>
    intro g S a hS hf hg
    have h0 : S = 0 := (card_zero hS).1 (by omega)
    subst h0
    cases g with
    | zero => rfl
    | succ g => rw [wyQ, wyQ, if_pos rfl]
  | succ f ih =>
    intro g S a hS hf hg
    cases g with
    | zero =>
      have h0 : S = 0 := (card_zero hS).1 (by omega)
      subst h0
      rw [wyQ, wyQ, if_pos rfl]
    | succ g =>
      rw [wyQ, wyQ]
      split
      · rfl
      · congr 1
        refine List.map_congr_left fun b hb => ?_
        rw [List.mem_filter, List.mem_range, Bool.and_eq_true] at hb
        have := card_less (mem_memN.2 ⟨hb.1, hb.2.1⟩)
        exact ih g _ b (less_lt hS) (by omega) (by omega)
theorem ordFrom_nodup {n : Nat} : ∀ (m : Nat) (pre : List Nat), pre.Nodup → (ordFrom n m pre).Nodup := by
  intro m
  induction m with
  | zero => intro pre _; simp [ordFrom]
  | succ m ih =>
    intro pre hp
    rw [ordFrom]
    have hl : ((List.range n).filter fun b => !pre.contains b).Nodup := List.Pairwise.filter _ List.nodup_range
    have hm : ∀ b ∈ (List.range n).filter fun b => !pre.contains b, (pre ++ [b]).Nodup := fun b hb => by
      rw [List.mem_filter] at hb
      have hb2 : b ∉ pre := by simpa using hb.2
      exact List.nodup_append.2 ⟨hp, by simp, fun x hx y hy => by simp at hy; subst hy; intro e; subst e; exact hb2 hx⟩
    generalize ((List.range n).filter fun b => !pre.contains b) = L at *
    induction L with
    | nil => simp
    | cons b L ihL =>
      rw [List.flatMap_cons]
      rw [List.nodup_cons] at hl
      refine List.nodup_append.2 ⟨ih _ (hm b (by simp)), ihL hl.2 fun c hc => hm c (by simp [hc]), fun x hx y hy => ?_⟩
      rw [List.mem_flatMap] at hy
      obtain ⟨c, hc, hy⟩ := hy
      obtain ⟨s1, e1, -⟩ := (mem_ordFrom (hm b (by simp))).1 hx
      obtain ⟨s2, e2, -⟩ := (mem_ordFrom (hm c (by simp [hc]))).1 hy
      intro e
      rw [e1, e2, List.append_assoc, List.append_assoc] at e
      have := List.append_cancel_left e
      simp at this
      rw [this.1] at hl
      exact hl.1 hc
theorem ordL_nodup (n : Nat) : (ordL n).Nodup := ordFrom_nodup n [] (by simp)
/-- a turn of the orders that keeps them and loses none counts alike -/
theorem ord_turn {n : Nat} {g : List Nat → List Nat} (hg : ∀ l ∈ ordL n, g l ∈ ordL n) (hi : ∀ l ∈ ordL n, ∀ m ∈ ordL n, g l = g m → l = m) (p : List Nat → Bool) : (ordL n).countP p = (ordL n).countP fun l => p (g l) := by
  have hnd : ((ordL n).map g).Nodup := by
    have := ordL_nodup n
    generalize ordL n = L at *
    have key : ∀ M : List (List Nat), M.Nodup → (∀ l ∈ M, l ∈ L) → (M.map g).Nodup := by
      intro M
      induction M with
      | nil => intro _ _; simp
      | cons x M ih =>
        intro h1 h2
        rw [List.nodup_cons] at h1
        rw [List.map_cons, List.nodup_cons]
        refine ⟨fun hx => ?_, ih h1.2 fun l hl => h2 l (by simp [hl])⟩
        obtain ⟨y, hy, e⟩ := List.mem_map.1 hx
        rw [hi y (h2 y (by simp [hy])) x (h2 x (by simp)) e] at hy
        exact h1.1 hy
    exact key L this fun l h => h
  have hp : ((ordL n).map g).Perm (ordL n) := perm_fullG hnd (fun x hx => by
    obtain ⟨y, hy, rfl⟩ := List.mem_map.1 hx
    exact hg y hy) (by simp)
  rw [← hp.countP_eq, List.countP_map]
  rfl
theorem way_map {r s : Nat → Nat → Bool} {f : Nat → Nat} {n : Nat} (hf : ∀ a b, a < n → b < n → s (f a) (f b) = r a b) : ∀ {l : List Nat}, (∀ x ∈ l, x < n) → way s (l.map f) = way r l := by
  intro l
  cases l with
  | nil => intro _; rfl
  | cons a l =>
    show (∀ x ∈ a :: l, x < n) → chn s (f a) (l.map f) = chn r a l
    induction l generalizing a with
    | nil => intro _; rfl
    | cons b l ih =>
      intro h
      rw [List.map_cons, chn, chn, hf a b (h a (by simp)) (h b (by simp)), ih b fun x hx => h x (by simp [hx])]
theorem lastN_map {f : Nat → Nat} {l : List Nat} (h : l ≠ []) : lastN (l.map f) = f (lastN l) := by
  have h0 : 0 < l.length := List.length_pos_iff.2 h
  unfold lastN
  rw [List.length_map]
  simp [List.getD_eq_getElem?_getD, show l.length - 1 < l.length by omega]
theorem map_turn {n : Nat} {f : Nat → Nat} (hf1 : ∀ a, a < n → f a < n) (hf2 : ∀ a b, a < n → b < n → f a = f b → a = b) : (∀ l ∈ ordL n, l.map f ∈ ordL n) ∧ ∀ l ∈ ordL n, ∀ m ∈ ordL n, l.map f = m.map f → l = m := by
  constructor
  · intro l hl
    obtain ⟨h1, h2, h3⟩ := mem_ordL.1 hl
    refine mem_ordL.2 ⟨by simp [h1], fun x hx => ?_, ?_⟩
    · obtain ⟨y, hy, rfl⟩ := List.mem_map.1 hx
      exact hf1 y (h2 y hy)
    · rw [List.Nodup, List.pairwise_map]
      exact h3.imp_of_mem fun ha hb hne e => hne (hf2 _ _ (h2 _ ha) (h2 _ hb) e)
  · intro l hl m hm e
    obtain ⟨h1, h2, -⟩ := mem_ordL.1 hl
    obtain ⟨k1, k2, -⟩ := mem_ordL.1 hm
    refine List.ext_getElem (by omega) fun i hi hi2 => ?_
    have := congrArg (fun z => z[i]?) e
    simp only [List.getElem?_map, List.getElem?_eq_getElem hi, List.getElem?_eq_getElem hi2, Option.map_some, Option.some.injEq] at this
    exact hf2 _ _ (h2 _ (List.getElem_mem hi)) (k2 _ (List.getElem_mem hi2)) this
/-- the number of ways under other names -/
theorem cnt_rename {r s : Nat → Nat → Bool} {f : Nat → Nat} {n : Nat} (hf1 : ∀ a, a < n → f a < n) (hf2 : ∀ a b, a < n → b < n → f a = f b → a = b) (hf : ∀ a b, a < n → b < n → s (f a) (f b) = r a b) : cntQ s (fun _ => true) n = cntQ r (fun _ => true) n := by
  obtain ⟨t1, t2⟩ := map_turn hf1 hf2
  unfold cntQ
  rw [ord_turn t1 t2]
  refine List.countP_congr fun l hl => ?_
  rw [way_map hf (mem_ordL.1 hl).2.1]
theorem chn_reverse {r s : Nat → Nat → Bool} (h : ∀ a b, s a b = r b a) (l : List Nat) : way s l.reverse = way r l := by
  rw [Bool.eq_iff_iff, way_iff, way_iff, List.length_reverse]
  have hg : ∀ i, i < l.length → l.reverse.getD i 0 = l.getD (l.length - 1 - i) 0 := fun i hi => by
    simp [List.getD_eq_getElem?_getD, List.getElem?_reverse hi]
  constructor
  · intro hw i hi
    have := hw (l.length - 1 - (i + 1)) (by omega)
    rw [hg _ (by omega), hg _ (by omega), h] at this
    rwa [show l.length - 1 - (l.length - 1 - (i + 1) + 1) = i by omega, show l.length - 1 - (l.length - 1 - (i + 1)) = i + 1 by omega] at this
  · intro hw i hi
    rw [hg _ (by omega), hg _ (by omega), h]
    have := hw (l.length - 1 - (i + 1)) (by omega)
    rwa [show l.length - 1 - (i + 1) + 1 = l.length - 1 - i by omega] at this
theorem rev_turn (n : Nat) : (∀ l ∈ ordL n, l.reverse ∈ ordL n) ∧ ∀ l ∈ ordL n, ∀ m ∈ ordL n, l.reverse = m.reverse → l = m := by
  constructor
  · intro l hl
    obtain ⟨h1, h2, h3⟩ := mem_ordL.1 hl
    exact mem_ordL.2 ⟨by simp [h1], fun x hx => h2 x (by simpa using hx), (List.reverse_perm l).symm.nodup h3⟩
  · intro l _ m _ e
    exact List.reverse_inj.1 e
theorem way_congr {r s : Nat → Nat → Bool} {n : Nat} (h : ∀ a b, a < n → b < n → s a b = r a b) {l : List Nat} (hl : ∀ x ∈ l, x < n) : way s l = way r l := by
  have := way_map (f := fun x => x) (r := r) (s := s) h hl
  rwa [List.map_id'] at this
/-- the number of ways of the reversed tour -/
theorem cnt_reverse {r s : Nat → Nat → Bool} {n : Nat} (h : ∀ a b, a < n → b < n → s a b = r b a) : cntQ s (fun _ => true) n = cntQ r (fun _ => true) n := by
  unfold cntQ
  rw [ord_turn (rev_turn n).1 (rev_turn n).2]
  refine List.countP_congr fun l hl => ?_
  have hm := (mem_ordL.1 ((rev_turn n).1 l hl)).2.1
  rw [← way_congr (s := s) (r := fun a b => s a b) (fun _ _ _ _ => rfl) hm, way_congr (r := fun a b => r b a) h hm, chn_reverse (r := r) (s := fun a b => r b a) (fun _ _ => rfl)]
/-- closed orders: each beats the next one, the last one the first -/
def clo2 (r : Nat → Nat → Bool) (l : List Nat) : Bool := way r l && r (lastN l) (l.headD 0)
def rot1 : List Nat → List Nat
  | [] => []
  | a :: l => l ++ [a]
theorem clo_rot (r : Nat → Nat → Bool) {l : List Nat} (h : l ≠ []) : clo2 r (rot1 l) = clo2 r l := by
  cases l with
  | nil => exact absurd rfl h
  | cons a l =>
    cases l with
    | nil => rfl
    | cons b l =>
      show (way r ((b :: l) ++ [a]) && r (lastN ((b :: l) ++ [a])) b) = (chn r a (b :: l) && r (lastN (a :: b :: l)) a)
      rw [way_snoc r a (by simp), lastN_snoc', chn, show lastN (a :: b :: l) = lastN (b :: l) by simp [lastN]]
      show (chn r b l && r (lastN (b :: l)) a && r a b) = (r a b && chn r b l && r (lastN (b :: l)) a)
      cases chn r b l <;> cases r (lastN (b :: l)) a <;> cases r a b <;> rfl
theorem rot_turn (n : Nat) : (∀ l ∈ ordL n, rot1 l ∈ ordL n) ∧ ∀ l ∈ ordL n, ∀ m ∈ ordL n, rot1 l = rot1 m → l = m := by
  constructor
  · intro l hl
    obtain ⟨h1, h2, h3⟩ := mem_ordL.1 hl
    cases l with
    | nil => exact hl
    | cons a l =>
      show l ++ [a] ∈ ordL n
      refine mem_ordL.2 ⟨by simpa using h1, (fun x hx => h2 x (by
        rcases List.mem_append.1 hx with h | h
        · exact List.mem_cons_of_mem _ h
        · simp at h; subst h; exact List.mem_cons_self)), ?_⟩
      rw [List.nodup_cons] at h3
      exact List.nodup_append.2 ⟨h3.2, by simp, fun x hx y hy => by simp at hy; subst hy; intro e; subst e; exact h3.1 hx⟩
  · intro l hl m hm e
    obtain ⟨h1, -, -⟩ := mem_ordL.1 hl
    obtain ⟨k1, -, -⟩ := mem_ordL.1 hm
    cases l with
    | nil => cases m with
      | nil => rfl
      | cons b m => simp at h1 k1; omega
    | cons a l => cases m with
      | nil => simp at h1 k1; omega
      | cons b m =>
        have := List.append_inj' (show l ++ [a] = m ++ [b] from e) rfl
        simp at this
        rw [this.1, this.2]
/-- closed orders with s at the place i -/
def cntAt (r : Nat → Nat → Bool) (n i s : Nat) : Nat := (ordL n).countP fun l => clo2 r l && decide (l.getD i 0 = s)
def cntC (r : Nat → Nat → Bool) (n : Nat) : Nat := (ordL n).countP fun l => clo2 r l
theorem cntAt_step {r : Nat → Nat → Bool} {n i s : Nat} (hi : i + 1 < n) : cntAt r n i s = cntAt r n (i + 1) s := by
  unfold cntAt
  rw [ord_turn (rot_turn n).1 (rot_turn n).2]
  refine List.countP_congr fun l hl => ?_
  have h1 := (mem_ordL.1 hl).1
  cases l with
  | nil => simp at h1; omega
  | cons a l =>
    rw [clo_rot r (by simp)]
    have e : (rot1 (a :: l)).getD i 0 = (a :: l).getD (i + 1) 0 := by
      show (l ++ [a]).getD i 0 = l.getD i 0
      simp [List.getD_eq_getElem?_getD, List.getElem?_append_left (show i < l.length by simp at h1; omega)]
    rw [e]
theorem cntAt_zero {r : Nat → Nat → Bool} {n s : Nat} : ∀ i, i < n → cntAt r n i s = cntAt r n 0 s := by
  intro i
  induction i with
  | zero => intro _; rfl
  | succ i ih => intro hi; rw [← cntAt_step hi, ih (by omega)]
def sumW (f : Nat → Nat) : Nat → Nat
  | 0 => 0
  | k + 1 => sumW f k + f k
theorem sumW_congr {f g : Nat → Nat} : ∀ {n : Nat}, (∀ k, k < n → f k = g k) → sumW f n = sumW g n := by
  intro n
  induction n with
  | zero => intro _; rfl
  | succ n ih => intro h; rw [sumW, sumW, ih fun k hk => h k (by omega), h n (by omega)]
theorem sumW_add (f g : Nat → Nat) : ∀ n, sumW (fun i => f i + g i) n = sumW f n + sumW g n := by
  intro n
  induction n with
  | zero => rfl
  | succ n ih => simp only [sumW, ih]; omega
theorem sumW_const (c : Nat) : ∀ n, sumW (fun _ => c) n = n * c := by
  intro n
  induction n with
  | zero => simp [sumW]
  | succ n ih => rw [sumW, ih, Nat.succ_mul]
theorem sumW_one {f : Nat → Nat} {i0 : Nat} : ∀ n, i0 < n → (∀ i, i < n → f i = if i = i0 then 1 else 0) → sumW f n = 1 := by
  have h0 : ∀ n, n ≤ i0 → (∀ i, i < n → f i = if i = i0 then 1 else 0) → sumW f n = 0 := by
    intro n
    induction n with
    | zero => intro _ _; rfl
    | succ n ih => intro h1 h2; rw [sumW, ih (by omega) fun i hi => h2 i (by omega), h2 n (by omega), if_neg (by omega)]
  intro n
  induction n with
  | zero => intro h; omega
  | succ n ih =>
    intro h1 h2
    rw [sumW, h2 n (by omega)]
    by_cases e : n = i0
    · rw [h0 n (by omega) fun i hi => h2 i (by omega), if_pos e]
    · rw [ih (by omega) fun i hi => h2 i (by omega), if_neg e]
theorem sum_count {p : List Nat → Bool} {q : Nat → List Nat → Bool} {n : Nat} : ∀ M : List (List Nat), (∀ l ∈ M, ∃ i0, i0 < n ∧ ∀ i, i < n → (q i l = true ↔ i = i0)) → sumW (fun i => M.countP fun l => p l && q i l) n = M.countP p := by
  intro M
  induction M with
  | nil => intro _; rw [List.countP_nil, sumW_congr (g := fun _ => 0) fun k _ => List.countP_nil, sumW_const]; rfl
  | cons l M ih =>
    intro h
    rw [sumW_congr (g := fun i => (M.countP fun l => p l && q i l) + if (p l && q i l) = true then 1 else 0) fun k _ => List.countP_cons, sumW_add, ih fun x hx => h x (by simp [hx]), List.countP_cons]
    congr 1
    rcases hpl : p l with _ | _
    · have e : (fun i => if (false && q i l) = true then 1 else 0) = fun _ : Nat => (0 : Nat) := by funext i; rfl
      rw [e, sumW_const]; rfl
    · obtain ⟨i0, hi0, hq⟩ := h l (by simp)
      rw [if_pos rfl]
      refine sumW_one n hi0 fun i hi => ?_
      rw [Bool.true_and]
      by_cases e : i = i0
      · rw [if_pos e, if_pos ((hq i hi).2 e)]
      · rw [if_neg e, if_neg fun hh => e ((hq i hi).1 hh)]
/-- n times the closed orders from s are all closed orders -/
theorem cntC_at {r : Nat → Nat → Bool} {n s : Nat} (hs : s < n) : n * cntAt r n 0 s = cntC r n := by
  rw [← sumW_const, ← sumW_congr (f := fun i => cntAt r n i s) fun k hk => cntAt_zero k hk]
  refine sum_count (ordL n) fun l hl => ?_
  obtain ⟨-, -, h3⟩ := mem_ordL.1 hl
  obtain ⟨o1, o2, o3⟩ := ord_at hl
  obtain ⟨i0, h0, e0⟩ := o3 s hs
  refine ⟨i0, h0, fun i hi => ?_⟩
  rw [decide_eq_true_eq]
  constructor
  · intro e; exact o2 i i0 hi h0 (by rw [e, e0])
  · intro e; subst e; exact e0
theorem headD_getD (l : List Nat) : l.headD 0 = l.getD 0 0 := by cases l <;> rfl
theorem clo_map {r s : Nat → Nat → Bool} {f : Nat → Nat} {n : Nat} (hf : ∀ a b, a < n → b < n → s (f a) (f b) = r a b) {l : List Nat} (hne : l ≠ []) (hl : ∀ x ∈ l, x < n) : clo2 s (l.map f) = clo2 r l := by
  unfold clo2
  have h0 : 0 < l.length := List.length_pos_iff.2 hne
  have hh : (l.map f).headD 0 = f (l.headD 0) := by cases l with
    | nil => exact absurd rfl hne
    | cons a l => rfl
  rw [way_map hf hl, lastN_map hne, hh, hf _ _ (hl _ (by unfold lastN; rw [getD_nat (by omega)]; exact List.getElem_mem _)) (hl _ (by rw [headD_getD, getD_nat h0]; exact List.getElem_mem _))]
theorem ord_ne {n : Nat} (h1 : 1 ≤ n) {l : List Nat} (hl : l ∈ ordL n) : l ≠ [] := fun e => by
  have := (mem_ordL.1 hl).1
  rw [e] at this
  simp at this
  omega
theorem cntC_rename {r s : Nat → Nat → Bool} {f : Nat → Nat} {n : Nat} (h1 : 1 ≤ n) (hf1 : ∀ a, a < n → f a < n) (hf2 : ∀ a b, a < n → b < n → f a = f b → a = b) (hf : ∀ a b, a < n → b < n → s (f a) (f b) = r a b) : cntC s n = cntC r n := by
  obtain ⟨t1, t2⟩ := map_turn hf1 hf2
  unfold cntC
  rw [ord_turn t1 t2]
  refine List.countP_congr fun l hl => ?_
  rw [clo_map hf (ord_ne h1 hl) (mem_ordL.1 hl).2.1]
theorem cntC_reverse {r s : Nat → Nat → Bool} {n : Nat} (h1 : 1 ≤ n) (h : ∀ a b, a < n → b < n → s a b = r b a) : cntC s n = cntC r n := by
  unfold cntC
  rw [ord_turn (rev_turn n).1 (rev_turn n).2]
  refine List.countP_congr fun l hl => ?_
  have hm := (mem_ordL.1 hl).2.1
  have hm2 := (mem_ordL.1 ((rev_turn n).1 l hl)).2.1
  have hne := ord_ne h1 hl
  have h0 : 0 < l.length := List.length_pos_iff.2 hne
  unfold clo2
  rw [way_congr (r := fun a b => r b a) h hm2, chn_reverse (r := r) (s := fun a b => r b a) (fun _ _ => rfl)]
  have e1 : lastN l.reverse = l.headD 0 := by
    unfold lastN
    rw [List.length_reverse, headD_getD]
    simp [List.getD_eq_getElem?_getD, List.getElem?_reverse (show l.length - 1 < l.length by omega)]
    try (congr 2; omega)
  have e2 : l.reverse.headD 0 = lastN l := by
    unfold lastN
    rw [headD_getD]
    simp [List.getD_eq_getElem?_getD, List.getElem?_reverse h0]
  rw [e1, e2, h _ _ (hm _ (by rw [headD_getD, getD_nat h0]; exact List.getElem_mem _)) (hm _ (by unfold lastN; rw [getD_nat (by omega)]; exact List.getElem_mem _))]
/-- the program's count of closed ways -/
theorem cntAt_count {r : Nat → Nat → Bool} {n s : Nat} (hs : s < n) : cntAt r n 0 s = wyQ r (fun a => r a s) n (n - 1) (less (2 ^ n - 1) (2 ^ s)) s := by
  have h1 : 1 ≤ n := by omega
  have hc := count_from (r := r) (Q := fun a => r a s) (n - 1) [s] (by simp) (by simp) (fun x hx => by simp at hx; subst hx; exact hs) (by simp; omega)
  rw [if_pos (show way r [s] = true from rfl), setW_one] at hc
  have e : lastN [s] = s := rfl
  rw [e] at hc
  rw [← hc]
  unfold cntAt
  rw [ordL_heads h1, countP_flatMap']
  have hz : ∀ a ∈ List.range n, ((ordFrom n (n - 1) [a]).countP fun l => clo2 r l && decide (l.getD 0 0 = s)) = if a = s then (ordFrom n (n - 1) [s]).countP fun l => way r l && r (lastN l) s else 0 := fun a ha => by
    have hm : ∀ l ∈ ordFrom n (n - 1) [a], l.getD 0 0 = a := fun l hl => by
      obtain ⟨suf, rfl, -⟩ := (mem_ordFrom (by simp)).1 hl
      rfl
    by_cases e : a = s
    · subst e
      rw [if_pos rfl]
      refine List.countP_congr fun l hl => ?_
      unfold clo2
      rw [headD_getD, hm l hl, decide_eq_true rfl, Bool.and_true]
    · rw [if_neg e, List.countP_eq_zero]
      intro l hl
      rw [hm l hl, decide_eq_false e, Bool.and_false]
      decide
  rw [List.map_congr_left hz]
  have key : ∀ (c : Nat) (k : Nat), ((List.range k).map fun a => if a = s then c else 0).sum = if s < k then c else 0 := by
    intro c k
    induction k with
    | zero => rfl
    | succ k ih =>
      rw [List.range_succ, List.map_append, List.sum_append, ih, List.map_cons, List.map_nil, List.sum_cons, List.sum_nil]
      by_cases h : s < k
      · have h2 : ¬ k = s := by omega
        have h3 : s < k + 1 := by omega
        rw [if_pos h, if_neg h2, if_pos h3]; omega
      · by_cases h2 : k = s
        · have h3 : s < k + 1 := by omega
          rw [if_neg h, if_pos h2, if_pos h3]; omega
        · have h3 : ¬ s < k + 1 := by omega
          rw [if_neg h, if_neg h2, if_neg h3]
          rfl
  rw [key, if_pos hs]
end Go.Proofs.YthoodjjjklbggaaGreatDoor

namespace Go.Proofs.YthoodjjjklbggaaGreatDoor
open Go.RowKit Go.Sort
/-- the reversals of an order: who stands behind beats who stands ahead -/
def revN (r : Nat → Nat → Bool) : List Nat → Nat
  | [] => 0
  | a :: l => (l.countP fun b => r b a) + revN r l
/-- the reversals of who is first in a set -/
def costN (r : Nat → Nat → Bool) (n S a : Nat) : Nat := (memN S n).countP fun b => r b a
def arStp (C : Nat → Int) (M : Nat → Nat) (acc : Int × Nat) (a : Nat) : Int × Nat :=
  if acc.1 < 0 ∨ C a < acc.1 then (C a, M a) else if C a = acc.1 then (acc.1, acc.2 + M a) else acc
def arN (r : Nat → Nat → Bool) (n : Nat) : Nat → Nat → Int × Nat
  | 0, _ => (0, 1)
  | f + 1, S => if S = 0 then (0, 1) else (memN S n).foldl (arStp (fun a => (costN r n S a : Int) + (arN r n f (less S (2 ^ a))).1) (fun a => (arN r n f (less S (2 ^ a))).2)) (-1, 0)
/-- the orders of a set -/
def orsN (n : Nat) : Nat → Nat → List (List Nat)
  | 0, _ => [[]]
  | f + 1, S => (memN S n).flatMap fun a => (orsN n f (less S (2 ^ a))).map (a :: ·)
theorem fold_pos {C : Nat → Int} {M : Nat → Nat} : ∀ (l : List Nat) (m0 : Int) (k0 : Nat), 0 ≤ m0 → (∀ a ∈ l, 0 ≤ C a) →
    ∃ m K, l.foldl (arStp C M) (m0, k0) = (m, K) ∧ 0 ≤ m ∧ m ≤ m0 ∧ (∀ a ∈ l, m ≤ C a) ∧ (m = m0 ∨ ∃ a ∈ l, C a = m) ∧ K = (if m = m0 then k0 else 0) + (l.map fun a => if C a = m then M a else 0).sum := by
  intro l
  induction l with
  | nil => intro m0 k0 h0 _; exact ⟨m0, k0, rfl, h0, Int.le_refl _, by simp, .inl rfl, by simp⟩
  | cons a l ih =>
    intro m0 k0 h0 hC
    have hCa := hC a (by simp)
    have hCl : ∀ b ∈ l, 0 ≤ C b := fun b hb => hC b (by simp [hb])
    rw [List.foldl_cons]
    unfold arStp
    rcases Int.lt_trichotomy (C a) m0 with h | h | h
    · rw [if_pos (.inr h)]
      obtain ⟨m, K, e, h1, h2, h3, h4, h5⟩ := ih (C a) (M a) hCa hCl
      refine ⟨m, K, e, h1, by omega, fun b hb => ?_, .inr ?_, ?_⟩
      · rcases List.mem_cons.1 hb with rfl | hb
        · exact h2
        · exact h3 b hb
      · rcases h4 with h4 | ⟨b, hb, h4⟩
        · exact ⟨a, by simp, h4.symm⟩
        · exact ⟨b, by simp [hb], h4⟩
      · rw [h5, List.map_cons, List.sum_cons, if_neg (by omega : ¬ m = m0), Nat.zero_add]
        by_cases q : m = C a
        · rw [if_pos q, if_pos q.symm]
        · rw [if_neg q, if_neg (fun e => q e.symm)]
    · rw [if_neg (by show ¬ (m0 < 0 ∨ C a < m0); omega), if_pos h]
      obtain ⟨m, K, e, h1, h2, h3, h4, h5⟩ := ih m0 (k0 + M a) h0 hCl
      refine ⟨m, K, e, h1, h2, fun b hb => ?_, ?_, ?_⟩
      · rcases List.mem_cons.1 hb with rfl | hb
        · omega
        · exact h3 b hb
      · rcases h4 with h4 | ⟨b, hb, h4⟩
        · exact .inl h4
        · exact .inr ⟨b, by simp [hb], h4⟩
      · rw [h5, List.map_cons, List.sum_cons]
        by_cases q : m = m0
        · rw [if_pos q, if_pos q, if_pos (by omega)]; omega
        · rw [if_neg q, if_neg q, if_neg (by omega)]; omega
    · rw [if_neg (by show ¬ (m0 < 0 ∨ C a < m0); omega), if_neg (by show ¬ C a = m0; omega)]
      obtain ⟨m, K, e, h1, h2, h3, h4, h5⟩ := ih m0 k0 h0 hCl
      refine ⟨m, K, e, h1, h2, fun b hb => ?_, ?_, ?_⟩
      · rcases List.mem_cons.1 hb with rfl | hb
        · omega
        · exact h3 b hb
      · rcases h4 with h4 | ⟨b, hb, h4⟩
        · exact .inl h4
        · exact .inr ⟨b, by simp [hb], h4⟩
      · rw [h5, List.map_cons, List.sum_cons, if_neg (by omega : ¬ C a = m)]; omega
theorem fold_min {C : Nat → Int} {M : Nat → Nat} {l : List Nat} (hl : l ≠ []) (hC : ∀ a ∈ l, 0 ≤ C a) :
    ∃ m K, l.foldl (arStp C M) (-1, 0) = (m, K) ∧ 0 ≤ m ∧ (∀ a ∈ l, m ≤ C a) ∧ (∃ a ∈ l, C a = m) ∧ K = (l.map fun a => if C a = m then M a else 0).sum := by
  cases l with
  | nil => exact absurd rfl hl
  | cons a l =>
    rw [List.foldl_cons]
    have e0 : arStp C M (-1, 0) a = (C a, M a) := by unfold arStp; exact if_pos (.inl (by decide))
    rw [e0]
    obtain ⟨m, K, e, h1, h2, h3, h4, h5⟩ := fold_pos (M := M) l (C a) (M a) (hC a (by simp)) fun b hb => hC b (by simp [hb])
    refine ⟨m, K, e, h1, fun b hb => ?_, ?_, ?_⟩
    · rcases List.mem_cons.1 hb with rfl | hb
      · exact h2
      · exact h3 b hb
    · rcases h4 with h4 | ⟨b, hb, h4⟩
      · exact ⟨a, by simp, h4.symm⟩
      · exact ⟨b, by simp [hb], h4⟩
    · rw [h5, List.map_cons, List.sum_cons]
      by_cases q : m = C a
      · rw [if_pos q, if_pos q.symm]
      · rw [if_neg q, if_neg (fun e => q e.symm)]
theorem orsN_perm {n : Nat} : ∀ f S, S < 2 ^ n → (memN S n).length = f → ∀ l ∈ orsN n f S, l.Perm (memN S n) := by
  intro f
  induction f with
  | zero =>
    intro S hS hf l hl
    rw [orsN, List.mem_singleton] at hl
    rw [hl, List.eq_nil_of_length_eq_zero hf]
  | succ f ih =>
    intro S hS hf l hl
    rw [orsN, List.mem_flatMap] at hl
    obtain ⟨a, ha, hl⟩ := hl
    rw [List.mem_map] at hl
    obtain ⟨t, ht, rfl⟩ := hl
    have hc := card_less ha
    have := ih (less S (2 ^ a)) (less_lt hS) (by omega) t ht
    rw [memN_less, ← (memN_nodup S n).erase_eq_filter] at this
    exact (this.cons a).trans (List.perm_cons_erase ha).symm
theorem costN_less (r : Nat → Nat → Bool) (n S a : Nat) (haa : r a a = false) : (memN (less S (2 ^ a)) n).countP (fun b => r b a) = costN r n S a := by
  unfold costN
  rw [memN_less, List.countP_filter]
  refine List.countP_congr fun b _ => ?_
  by_cases e : b = a
  · subst e; simp [haa]
  · simp [e]
/-- the table's law -/
theorem arN_law {r : Nat → Nat → Bool} {n : Nat} (hr : ∀ a, r a a = false) : ∀ f S, S < 2 ^ n → (memN S n).length = f →
    ∃ m : Nat, (arN r n f S).1 = m ∧ (∀ l ∈ orsN n f S, m ≤ revN r l) ∧ (∃ l ∈ orsN n f S, revN r l = m) ∧ (arN r n f S).2 = (orsN n f S).countP fun l => revN r l == m := by
  intro f
  induction f with
  | zero =>
    intro S _ _
    refine ⟨0, rfl, fun l _ => Nat.zero_le _, ⟨[], by simp [orsN], rfl⟩, ?_⟩
    simp [orsN, arN, revN]
  | succ f ih =>
    intro S hS hf
    have h0 : S ≠ 0 := fun e => by rw [(card_zero hS).2 e] at hf; omega
    have hne : memN S n ≠ [] := fun e => by rw [e] at hf; simp at hf
    have hrec : ∀ a ∈ memN S n, ∃ m : Nat, (arN r n f (less S (2 ^ a))).1 = m ∧ (∀ l ∈ orsN n f (less S (2 ^ a)), m ≤ revN r l) ∧ (∃ l ∈ orsN n f (less S (2 ^ a)), revN r l = m) ∧ (arN r n f (less S (2 ^ a))).2 = (orsN n f (less S (2 ^ a))).countP fun l => revN r l == m :=
      fun a ha => ih _ (less_lt hS) (by have := card_less ha; omega)
    have hrev : ∀ a ∈ memN S n, ∀ l ∈ orsN n f (less S (2 ^ a)), revN r (a :: l) = costN r n S a + revN r l := fun a ha l hl => by
      rw [revN, (orsN_perm f _ (less_lt hS) (by have := card_less ha; omega) l hl).countP_eq, costN_less r n S a (hr a)]
    obtain ⟨m, K, e, h1, h2, ⟨a0, ha0, h3⟩, h4⟩ := fold_min (C := fun a => (costN r n S a : Int) + (arN r n f (less S (2 ^ a))).1) (M := fun a => (arN r n f (less S (2 ^ a))).2) hne (fun a ha => by
      obtain ⟨k, hk, -⟩ := hrec a ha
      simp only [hk]; omega)
    obtain ⟨m, rfl⟩ := Int.eq_ofNat_of_zero_le h1
    refine ⟨m, by rw [arN, if_neg h0, e], fun l hl => ?_, ?_, ?_⟩
    · rw [orsN, List.mem_flatMap] at hl
      obtain ⟨a, ha, hl⟩ := hl
      rw [List.mem_map] at hl
      obtain ⟨t, ht, rfl⟩ := hl
      obtain ⟨k, hk, hk1, -⟩ := hrec a ha
      have := h2 a ha
      have := hk1 t ht
      rw [hrev a ha t ht]
      rw [hk] at *
      omega
    · obtain ⟨k, hk, -, ⟨t, ht, hk2⟩, -⟩ := hrec a0 ha0
      refine ⟨a0 :: t, by rw [orsN]; exact List.mem_flatMap.2 ⟨a0, ha0, List.mem_map.2 ⟨t, ht, rfl⟩⟩, ?_⟩
      rw [hrev a0 ha0 t ht]
      rw [hk] at h3
      omega
    · rw [arN, if_neg h0, e, orsN, countP_flatMap']
      show K = _
      rw [h4]
      congr 1
      refine List.map_congr_left fun a ha => ?_
      obtain ⟨k, hk, hk1, -, hk3⟩ := hrec a ha
      have h2a := h2 a ha
      rw [List.countP_map, hk3]
      rw [hk] at h2a ⊢
      split
      · next q =>
        refine List.countP_congr fun l hl => ?_
        have := hrev a ha l hl
        simp only [Function.comp, beq_iff_eq]
        omega
      · next q =>
        symm
        rw [List.countP_eq_zero]
        intro l hl
        have := hrev a ha l hl
        have := hk1 l hl
        simp only [Function.comp, beq_iff_eq]
        omega
/-- more steps than players change nothing -/
theorem arN_fuel {r : Nat → Nat → Bool} {n : Nat} : ∀ f g S, S < 2 ^ n → (memN S n).length ≤ f → (memN S n).length ≤ g → arN r n f S = arN r n g S := by
  intro f
  induction f with
  | zero =>
    intro g S hS hf hg
    have h0 : S = 0 := (card_zero hS).1 (by omega)
    subst h0
    cases g with
    | zero => rfl
    | succ g => rw [arN, arN, if_pos rfl]
  | succ f ih =>
    intro g S hS hf hg
    cases g with
    | zero =>
      have h0 : S = 0 := (card_zero hS).1 (by omega)
      subst h0
      rw [arN, arN, if_pos rfl]
    | succ g =>
      rw [arN, arN]
      split
      · rfl
      · have hc : ∀ a ∈ memN S n, arN r n f (less S (2 ^ a)) = arN r n g (less S (2 ^ a)) := fun a ha => by
          have := card_less ha
          exact ih g _ (less_lt hS) (by omega) (by omega)
        generalize ((-1, 0) : Int × Nat) = acc
        generalize hL : memN S n = L at *
        clear hL
        have hg2 : ∀ (M : List Nat), (∀ a ∈ M, a ∈ L) → ∀ acc, M.foldl (arStp (fun a => (costN r n S a : Int) + (arN r n f (less S (2 ^ a))).1) (fun a => (arN r n f (less S (2 ^ a))).2)) acc = M.foldl (arStp (fun a => (costN r n S a : Int) + (arN r n g (less S (2 ^ a))).1) (fun a => (arN r n g (less S (2 ^ a))).2)) acc := by
          intro M
          induction M with
          | nil => intro _ acc; rfl
          | cons a M ihM =>
            intro hM acc
            rw [List.foldl_cons, List.foldl_cons, ihM fun b hb => hM b (by simp [hb])]
            congr 1
            unfold arStp
            simp only [hc a (hM a (by simp))]
        exact hg2 L (fun _ h => h) acc
/-- the orders of all players are those of the whole set -/
theorem ordFrom_ordS {n : Nat} : ∀ (m : Nat) (pre : List Nat), ordFrom n m pre = (orsN n m (less (2 ^ n - 1) (setW pre))).map (pre ++ ·) := by
  intro m
  induction m with
  | zero => intro pre; simp [ordFrom, orsN]
  | succ m ih =>
    intro pre
    have e : memN (less (2 ^ n - 1) (setW pre)) n = (List.range n).filter fun b => !pre.contains b := by
      unfold memN
      refine List.filter_congr fun b hb => ?_
      rw [testBit_less, testBit_full, decide_eq_true (List.mem_range.1 hb), testBit_setW, Bool.true_and]
    rw [ordFrom, orsN, List.map_flatMap, e]
    congr 1
    funext b
    rw [ih, setW_less_snoc, List.map_map]
    congr 1
    funext l
    simp
theorem ordL_ordS (n : Nat) : ordL n = orsN n n (2 ^ n - 1) := by
  unfold ordL
  rw [ordFrom_ordS]
  have e1 : less (2 ^ n - 1) (setW []) = 2 ^ n - 1 := Nat.eq_of_testBit_eq fun j => by
    rw [testBit_less, testBit_setW]; simp
  have e2 : (([] : List Nat) ++ ·) = (fun l : List Nat => l) := by funext l; rfl
  rw [e1, e2, List.map_id']
theorem full_ltN (n : Nat) : 2 ^ n - 1 < 2 ^ n := by have := Nat.two_pow_pos n; omega
theorem full_mem (n : Nat) : memN (2 ^ n - 1) n = List.range n := by
  unfold memN
  rw [List.filter_eq_self]
  intro a ha
  rw [testBit_full, decide_eq_true (List.mem_range.1 ha)]
/-- the table -/
def arT (r : Nat → Nat → Bool) (n S : Nat) : Int × Nat := arN r n n S
/-- the least number of reversals, and how many orders have it -/
def fewN (r : Nat → Nat → Bool) (n : Nat) : Nat := (arT r n (2 ^ n - 1)).1.toNat
def manyN (r : Nat → Nat → Bool) (n : Nat) : Nat := (arT r n (2 ^ n - 1)).2
theorem arT_eq {r : Nat → Nat → Bool} {n S : Nat} (hS : S < 2 ^ n) (h0 : S ≠ 0) : arT r n S = (memN S n).foldl (arStp (fun a => (costN r n S a : Int) + (arT r n (less S (2 ^ a))).1) (fun a => (arT r n (less S (2 ^ a))).2)) (-1, 0) := by
  have hl : (memN S n).length ≤ n := memN_len S n
  have hn : (memN S n).length ≠ 0 := fun e => h0 ((card_zero hS).1 e)
  obtain ⟨f, rfl⟩ : ∃ f, n = f + 1 := ⟨n - 1, by omega⟩
  unfold arT
  rw [arN_fuel (f + 1) (f + 2) S hS (by omega) (by omega), arN, if_neg h0]
theorem arT_zero (r : Nat → Nat → Bool) (n : Nat) : arT r n 0 = (0, 1) := by
  unfold arT
  cases n with
  | zero => rfl
  | succ n => rw [arN, if_pos rfl]
theorem arT_law {r : Nat → Nat → Bool} {n S : Nat} (hr : ∀ a, r a a = false) (hS : S < 2 ^ n) :
    ∃ m : Nat, (arT r n S).1 = m ∧ (∀ l ∈ orsN n (memN S n).length S, m ≤ revN r l) ∧ (∃ l ∈ orsN n (memN S n).length S, revN r l = m) ∧ (arT r n S).2 = (orsN n (memN S n).length S).countP fun l => revN r l == m := by
  have h := arN_law hr (memN S n).length S hS rfl
  unfold arT
  rw [arN_fuel n (memN S n).length S hS (memN_len S n) (Nat.le_refl _)]
  exact h
theorem few_law {r : Nat → Nat → Bool} {n : Nat} (hr : ∀ a, r a a = false) :
    (arT r n (2 ^ n - 1)).1 = (fewN r n : Int) ∧ (∀ l ∈ ordL n, fewN r n ≤ revN r l) ∧ (∃ l ∈ ordL n, revN r l = fewN r n) ∧ manyN r n = (ordL n).countP fun l => revN r l == fewN r n := by
  obtain ⟨m, h1, h2, h3, h4⟩ := arT_law (r := r) hr (full_ltN n)
  rw [full_mem, List.length_range, ← ordL_ordS] at h2 h3 h4
  have e : fewN r n = m := by unfold fewN; rw [h1]; rfl
  rw [e]
  exact ⟨h1, h2, h3, h4⟩
theorem many_pos {r : Nat → Nat → Bool} {n : Nat} (hr : ∀ a, r a a = false) : 1 ≤ manyN r n := by
  obtain ⟨-, -, ⟨l, hl, h3⟩, h4⟩ := few_law (r := r) (n := n) hr
  rw [h4]
  exact List.countP_pos_iff.2 ⟨l, hl, by simp [h3]⟩
/-- bounds -/
theorem revN_le (r : Nat → Nat → Bool) : ∀ l : List Nat, revN r l ≤ l.length * l.length := by
  intro l
  induction l with
  | nil => simp [revN]
  | cons a l ih =>
    rw [revN, List.length_cons]
    have := List.countP_le_length (p := fun b => r b a) (l := l)
    have e : (l.length + 1) * (l.length + 1) = l.length * l.length + 2 * l.length + 1 := by rw [Nat.add_mul, Nat.mul_add]; omega
    omega
theorem orsN_len {n : Nat} (hn : n ≤ 8) : ∀ f S, (orsN n f S).length ≤ 8 ^ f := by
  intro f
  induction f with
  | zero => intro S; simp [orsN]
  | succ f ih =>
    intro S
    rw [orsN, List.length_flatMap]
    have e : ((memN S n).map fun a => ((orsN n f (less S (2 ^ a))).map (a :: ·)).length) = (memN S n).map fun a => (orsN n f (less S (2 ^ a))).length := List.map_congr_left fun a _ => List.length_map ..
    rw [e]
    have h1 := sum_le (l := memN S n) (F := fun a => (orsN n f (less S (2 ^ a))).length) (B := 8 ^ f) fun b _ => ih _
    have h2 : (memN S n).length * 8 ^ f ≤ 8 * 8 ^ f := Nat.mul_le_mul_right _ (Nat.le_trans (memN_len S n) hn)
    rw [Nat.pow_succ, Nat.mul_comm (8 ^ f)]
    omega
theorem arT_bound {r : Nat → Nat → Bool} {n S : Nat} (hr : ∀ a, r a a = false) (hn : n ≤ 8) (hS : S < 2 ^ n) : 0 ≤ (arT r n S).1 ∧ (arT r n S).1 ≤ 64 ∧ (arT r n S).2 ≤ 16777216 := by
  obtain ⟨m, h1, h2, ⟨l, hl, h3⟩, h4⟩ := arT_law (r := r) hr hS
  have hlen := memN_len S n
  have hp := (orsN_perm _ S hS rfl l hl).length_eq
  have hr2 := revN_le r l
  have h8 : l.length * l.length ≤ 8 * 8 := Nat.mul_le_mul (by omega) (by omega)
  refine ⟨by rw [h1]; omega, by rw [h1]; omega, ?_⟩
  rw [h4]
  refine Nat.le_trans List.countP_le_length (Nat.le_trans (orsN_len hn _ S) ?_)
  exact Nat.le_trans (Nat.pow_le_pow_right (by decide) (by omega : (memN S n).length ≤ 8)) (by decide)
/-- the first best order -/
def bestF (r : Nat → Nat → Bool) (n : Nat) : Nat → Nat → List Nat
  | 0, _ => []
  | f + 1, S => match (memN S n).find? fun a => decide ((costN r n S a : Int) + (arT r n (less S (2 ^ a))).1 = (arT r n S).1) with
    | some a => a :: bestF r n f (less S (2 ^ a))
    | none => []
def bestO (r : Nat → Nat → Bool) (n : Nat) : List Nat := bestF r n n (2 ^ n - 1)
/-- someone is first in a best order -/
theorem bestF_step {r : Nat → Nat → Bool} {n S : Nat} (hr : ∀ a, r a a = false) (hS : S < 2 ^ n) (h0 : S ≠ 0) : ∃ a, (memN S n).find? (fun a => decide ((costN r n S a : Int) + (arT r n (less S (2 ^ a))).1 = (arT r n S).1)) = some a ∧ a ∈ memN S n ∧ (costN r n S a : Int) + (arT r n (less S (2 ^ a))).1 = (arT r n S).1 := by
  have hne : memN S n ≠ [] := fun e => h0 ((card_zero hS).1 (by rw [e]; rfl))
  obtain ⟨m, K, e, -, -, ⟨a, ha, h3⟩, -⟩ := fold_min (C := fun a => (costN r n S a : Int) + (arT r n (less S (2 ^ a))).1) (M := fun a => (arT r n (less S (2 ^ a))).2) hne fun a ha => by
    have := (arT_law (r := r) (S := less S (2 ^ a)) hr (less_lt hS))
    obtain ⟨k, hk, -⟩ := this
    simp only [hk]; omega
  have e2 : (arT r n S).1 = m := by rw [arT_eq hS h0, e]
  rcases q : (memN S n).find? (fun a => decide ((costN r n S a : Int) + (arT r n (less S (2 ^ a))).1 = (arT r n S).1)) with _ | b
  · rw [List.find?_eq_none] at q
    exact absurd (by rw [e2]; simpa using h3) (q a ha)
  · exact ⟨b, rfl, List.mem_of_find?_eq_some q, by have := List.find?_some q; simpa using this⟩
theorem bestF_law {r : Nat → Nat → Bool} {n : Nat} (hr : ∀ a, r a a = false) : ∀ f S, S < 2 ^ n → (memN S n).length = f → bestF r n f S ∈ orsN n f S ∧ (revN r (bestF r n f S) : Int) = (arT r n S).1 := by
  intro f
  induction f with
  | zero =>
    intro S hS hf
    have h0 : S = 0 := (card_zero hS).1 hf
    subst h0
    refine ⟨by simp [bestF, orsN], by rw [arT_zero]; rfl⟩
  | succ f ih =>
    intro S hS hf
    have h0 : S ≠ 0 := fun e => by rw [(card_zero hS).2 e] at hf; omega
    obtain ⟨a, h1, h2, h3⟩ := bestF_step hr hS h0
    have hc := card_less h2
    obtain ⟨i1, i2⟩ := ih (less S (2 ^ a)) (less_lt hS) (by omega)
    rw [bestF, h1]
    refine ⟨by rw [orsN]; exact List.mem_flatMap.2 ⟨a, h2, List.mem_map.2 ⟨_, i1, rfl⟩⟩, ?_⟩
    rw [revN, (orsN_perm f _ (less_lt hS) (by omega) _ i1).countP_eq, costN_less r n S a (hr a), ← h3, ← i2]
    simp
theorem bestO_law {r : Nat → Nat → Bool} {n : Nat} (hr : ∀ a, r a a = false) : bestO r n ∈ ordL n ∧ revN r (bestO r n) = fewN r n := by
  have h := bestF_law (r := r) hr n (2 ^ n - 1) (full_ltN n) (by rw [full_mem, List.length_range])
  rw [← ordL_ordS, (few_law hr).1] at h
  exact ⟨h.1, Int.ofNat.inj h.2⟩
theorem revN_map {r s : Nat → Nat → Bool} {f : Nat → Nat} {n : Nat} (hf : ∀ a b, a < n → b < n → s (f a) (f b) = r a b) : ∀ {l : List Nat}, (∀ x ∈ l, x < n) → revN s (l.map f) = revN r l := by
  intro l
  induction l with
  | nil => intro _; rfl
  | cons a l ih =>
    intro hl
    rw [List.map_cons, revN, revN, ih fun x hx => hl x (by simp [hx]), List.countP_map]
    congr 1
    refine List.countP_congr fun b hb => ?_
    simp only [Function.comp]
    rw [hf b a (hl b (by simp [hb])) (hl a (by simp))]
/-- other names change nothing -/
theorem few_rename {r s : Nat → Nat → Bool} {f : Nat → Nat} {n : Nat} (hr : ∀ a, r a a = false) (hs : ∀ a, s a a = false) (hf1 : ∀ a, a < n → f a < n) (hf2 : ∀ a b, a < n → b < n → f a = f b → a = b) (hf : ∀ a b, a < n → b < n → s (f a) (f b) = r a b) :
    fewN s n = fewN r n ∧ manyN s n = manyN r n := by
  obtain ⟨hm1, hm2⟩ := map_turn hf1 hf2
  obtain ⟨-, r2, ⟨l, hl, r3⟩, r4⟩ := few_law (r := r) (n := n) hr
  obtain ⟨-, s2, ⟨k, hk, s3⟩, s4⟩ := few_law (r := s) (n := n) hs
  have hrv : ∀ l ∈ ordL n, revN s (l.map f) = revN r l := fun l hl => revN_map hf (mem_ordL.1 hl).2.1
  have e1 : (ordL n).countP (fun l => revN s l == fewN s n) = (ordL n).countP fun l => revN r l == fewN s n := by
    rw [ord_turn hm1 hm2]
    exact List.countP_congr fun l hl => by rw [hrv l hl]
  have hpos := many_pos (r := s) (n := n) hs
  rw [s4, e1] at hpos
  obtain ⟨x, hx, hx2⟩ := List.countP_pos_iff.1 hpos
  have hx2 : revN r x = fewN s n := by simpa using hx2
  have a1 := r2 x hx
  have a2 := s2 _ (hm1 l hl)
  rw [hrv l hl] at a2
  have e : fewN s n = fewN r n := by omega
  exact ⟨e, by rw [s4, e1, e, r4]⟩
theorem revN_snoc (r : Nat → Nat → Bool) (x : Nat) : ∀ l : List Nat, revN r (l ++ [x]) = revN r l + l.countP fun b => r x b := by
  intro l
  induction l with
  | nil => rfl
  | cons a l ih =>
    rw [List.cons_append, revN, revN, ih, List.countP_append, List.countP_cons (a := a)]
    simp only [List.countP_cons, List.countP_nil]
    omega
/-- an order and its reverse share all games -/
theorem revN_back {r : Nat → Nat → Bool} {n : Nat} (hr : ∀ a b, a < n → b < n → a ≠ b → r a b = !r b a) : ∀ {l : List Nat}, l.Nodup → (∀ x ∈ l, x < n) → 2 * (revN r l.reverse + revN r l) + l.length = l.length * l.length := by
  intro l
  induction l with
  | nil => intro _ _; rfl
  | cons a l ih =>
    intro hn hl
    rw [List.nodup_cons] at hn
    have h1 := ih hn.2 fun x hx => hl x (by simp [hx])
    rw [List.reverse_cons, revN_snoc, revN, List.countP_reverse, List.length_cons]
    have h2 : (l.countP fun b => r a b) + (l.countP fun b => r b a) = l.length := by
      rw [List.length_eq_countP_add_countP (l := l) (fun b => r a b)]
      congr 1
      refine List.countP_congr fun b hb => ?_
      rw [hr a b (hl a (by simp)) (hl b (by simp [hb])) (fun e => by subst e; exact hn.1 hb)]
      simp
    have e : (l.length + 1) * (l.length + 1) = l.length * l.length + 2 * l.length + 1 := by rw [Nat.add_mul, Nat.mul_add]; omega
    omega
theorem revN_app {r : Nat → Nat → Bool} {m1 m2 : List Nat} (hp : m1.Perm m2) {d : Nat} (h : revN r m1 = revN r m2 + d) : ∀ p : List Nat, revN r (p ++ m1) = revN r (p ++ m2) + d := by
  intro p
  induction p with
  | nil => exact h
  | cons a p ih =>
    rw [List.cons_append, List.cons_append, revN, revN, ih, (hp.append_left p).countP_eq]
    omega
/-- a best order is a way -/
theorem best_is_way {r : Nat → Nat → Bool} {n : Nat} (hr : ∀ a b, a < n → b < n → a ≠ b → r a b = !r b a) {l : List Nat} (hl : l ∈ ordL n) (hm : ∀ k ∈ ordL n, revN r l ≤ revN r k) : way r l = true := by
  obtain ⟨hlen, hlt, hnd⟩ := mem_ordL.1 hl
  rw [way_iff]
  intro i hi
  have hsplit : l = l.take i ++ (l.getD i 0 :: l.getD (i + 1) 0 :: l.drop (i + 2)) := by
    have h1 : l.drop i = l.getD i 0 :: l.drop (i + 1) := by
      rw [List.drop_eq_getElem_cons (by omega), getD_nat (by omega)]
    have h2 : l.drop (i + 1) = l.getD (i + 1) 0 :: l.drop (i + 2) := by
      rw [List.drop_eq_getElem_cons (by omega), getD_nat (by omega)]
    conv => lhs; rw [← List.take_append_drop i l, h1, h2]
  generalize l.getD i 0 = a at *
  generalize l.getD (i + 1) 0 = b at *
  generalize l.take i = p at *
  generalize l.drop (i + 2) = q at *
  subst hsplit
  have hab : a ≠ b := fun e => by
    subst e
    have := (List.nodup_append.1 hnd).2.1
    simp at this
  have ha := hlt a (by simp)
  have hb := hlt b (by simp)
  rcases h : r a b with _ | _
  · exfalso
    have h2 : r b a = true := by have := hr a b ha hb hab; rw [h] at this; simpa using this.symm
    have hsw : (a :: b :: q).Perm (b :: a :: q) := List.Perm.swap b a q
    have e : revN r (a :: b :: q) = revN r (b :: a :: q) + 1 := by
      simp only [revN, List.countP_cons, h, h2]
      simp
      omega
    have h3 := revN_app hsw e p
    have h4 := hm (p ++ b :: a :: q) (mem_ordL.2 ⟨by rw [← hlen]; simp, fun x hx => hlt x (((hsw.append_left p).mem_iff).2 hx), ((hsw.append_left p).nodup_iff).1 hnd⟩)
    omega
  · rfl
end Go.Proofs.YthoodjjjklbggaaGreatDoor

namespace Go.Proofs.YthoodjjjklbggaaGreatDoor
open Go.RowKit Go.Sort
set_option maxRecDepth 100000
def clo (xs : List Int) (S : Nat) : Prop := ∀ b c, S.testBit b = true → (winsN xs b).testBit c = true → S.testBit c = true
theorem it_sup (xs : List Int) (n : Nat) : ∀ f S c, S.testBit c = true → (itN xs n f S).testBit c = true := by
  intro f
  induction f with
  | zero => intro S c h; exact h
  | succ f ih =>
    intro S c h
    rw [itN]
    split
    · exact h
    · exact ih _ _ (by rw [testBit_orK, h]; rfl)
theorem it_sub {xs : List Int} {n T : Nat} (hT : clo xs T) : ∀ f S, (∀ c, S.testBit c = true → T.testBit c = true) → ∀ c, (itN xs n f S).testBit c = true → T.testBit c = true := by
  intro f
  induction f with
  | zero => intro S h c hc; exact h c hc
  | succ f ih =>
    intro S h c hc
    rw [itN] at hc
    split at hc
    · exact h c hc
    · refine ih _ (fun d hd => ?_) c hc
      rw [testBit_orK, Bool.or_eq_true, List.any_eq_true] at hd
      rcases hd with hd | ⟨b, hb, hbd⟩
      · exact h d hd
      · exact hT b d (h b (mem_memN.1 hb).2) hbd
theorem it_fix {xs : List Int} {n : Nat} (hn : n ≤ 8) (hw : ∀ b, b < n → winsN xs b < 2 ^ n) : ∀ f S, S < 2 ^ n → 256 ≤ f + S → itN xs n f S < 2 ^ n ∧ orK xs (memN (itN xs n f S) n) (itN xs n f S) = itN xs n f S := by
  have hp := pow_le hn
  intro f
  induction f with
  | zero => intro S hS h; omega
  | succ f ih =>
    intro S hS h
    rw [itN]
    split
    · rename_i he; exact ⟨hS, he⟩
    · rename_i he
      have h1 := orK_ge xs (memN S n) S
      exact ih _ (orK_ltn hw (fun b hb => (mem_memN.1 hb).1) hS) (by omega)
theorem reach_facts {s : Int} {xs : List Int} (hp : tourP s xs) {a : Nat} (ha : a < xs.length) :
    (reachN xs a).testBit a = true ∧ clo xs (reachN xs a) ∧ (∀ T, clo xs T → T.testBit a = true → ∀ c, (reachN xs a).testBit c = true → T.testBit c = true) ∧ reachN xs a < 2 ^ xs.length := by
  have hn : xs.length ≤ 8 := by have := hp.1; have := hp.2.1; omega
  have hw : ∀ b, b < xs.length → winsN xs b < 2 ^ xs.length := fun b hb => by
    have := (tour_wins hp hb).2.1
    rwa [show s.toNat = xs.length by have := hp.2.1; omega] at this
  have h2 : 2 ^ a < 2 ^ xs.length := Nat.pow_lt_pow_right (by decide) ha
  have h34 : reachN xs a < 2 ^ xs.length ∧ orK xs (memN (reachN xs a) xs.length) (reachN xs a) = reachN xs a := it_fix hn hw 256 (2 ^ a) h2 (Nat.le_add_right _ _)
  obtain ⟨h3, h4⟩ := h34
  refine ⟨it_sup xs xs.length 256 (2 ^ a) a (by simp), fun b c hb hc => ?_, fun T hT hTa c hc => it_sub hT 256 (2 ^ a) (fun d hd => ?_) c hc, h3⟩
  · have hbn : b < xs.length := by
      rcases Nat.lt_or_ge b xs.length with h | h
      · exact h
      · rw [Nat.testBit_lt_two_pow (Nat.lt_of_lt_of_le h3 (Nat.pow_le_pow_right (by decide) h))] at hb; cases hb
    have : (orK xs (memN (reachN xs a) xs.length) (reachN xs a)).testBit c = true := by
      rw [testBit_orK, Bool.or_eq_true, List.any_eq_true]
      exact .inr ⟨b, mem_memN.2 ⟨hbn, hb⟩, hc⟩
    rwa [h4] at this
  · rw [Nat.testBit_two_pow] at hd
    have : a = d := by simpa using hd
    subst this; exact hTa
theorem sub_eq {A B : Nat} (h1 : ∀ c, A.testBit c = true → B.testBit c = true) (h2 : ∀ c, B.testBit c = true → A.testBit c = true) : A = B :=
  Nat.eq_of_testBit_eq fun c => by rw [Bool.eq_iff_iff]; exact ⟨h1 c, h2 c⟩
theorem bit_lt {S n c : Nat} (hS : S < 2 ^ n) (h : S.testBit c = true) : c < n := by
  rcases Nat.lt_or_ge c n with h1 | h1
  · exact h1
  · rw [Nat.testBit_lt_two_pow (Nat.lt_of_lt_of_le hS (Nat.pow_le_pow_right (by decide) h1))] at h; cases h
def scK (xs : List Int) (a : Nat) : Nat := popN 8 (winsN xs a)
/-- who beats all of another one's reach has the greater score -/
theorem score_up {s : Int} {xs : List Int} (hp : tourP s xs) {a d : Nat} (ha : a < xs.length) (hd : d < xs.length) (h : ∀ e, (reachN xs a).testBit e = true → (winsN xs d).testBit e = true) : scK xs a < scK xs d := by
  have hn : xs.length ≤ 8 := by have := hp.1; have := hp.2.1; omega
  obtain ⟨h1, h2, -, h4⟩ := reach_facts hp ha
  unfold scK
  rw [pop_mem (tour_wins hp ha).2.2, pop_mem (tour_wins hp hd).2.2]
  have h5 := card_less (S := reachN xs a) (n := 8) (b := a) (mem_memN.2 ⟨by omega, h1⟩)
  have h6 := card_mono (S := winsN xs a) (T := less (reachN xs a) (2 ^ a)) (n := 8) (fun j hj => by
    rw [testBit_less, h2 a j h1 hj, Nat.testBit_two_pow]
    by_cases e : a = j
    · subst e; rw [beat_self hp ha] at hj; cases hj
    · simp [e])
  have h7 := card_mono (S := reachN xs a) (T := winsN xs d) (n := 8) h
  omega
/-- who is not reached beats all that are -/
theorem beats_reach {s : Int} {xs : List Int} (hp : tourP s xs) {a d : Nat} (ha : a < xs.length) (hd : d < xs.length) (h : (reachN xs a).testBit d = false) : ∀ e, (reachN xs a).testBit e = true → (winsN xs d).testBit e = true := by
  intro e he
  obtain ⟨-, h2, -, h4⟩ := reach_facts hp ha
  have hen := bit_lt h4 he
  have hne : d ≠ e := by intro e'; subst e'; rw [he] at h; cases h
  rw [beat_one hp hd hen hne]
  rcases q : (winsN xs e).testBit d with _ | _
  · rfl
  · rw [h2 e d he q] at h; cases h
def topF (xs : List Int) (n S : Nat) : Nat := setOf (fun a => S.testBit a && reachN xs a == S) n
theorem testBit_topF (xs : List Int) (n S c : Nat) : (topF xs n S).testBit c = (decide (c < n) && (S.testBit c && reachN xs c == S)) := testBit_setOf _ _ _
def partsF (xs : List Int) (n : Nat) : Nat → Nat → List Nat
  | 0, _ => []
  | f + 1, S => if S = 0 then [] else topF xs n S :: partsF xs n f (less S (topF xs n S))
theorem top_some {s : Int} {xs : List Int} (hp : tourP s xs) {S : Nat} (hS : S < 2 ^ xs.length) (hc : clo xs S) : ∀ k a, S.testBit a = true → 8 - scK xs a ≤ k → ∃ b, S.testBit b = true ∧ reachN xs b = S := by
  intro k
  induction k with
  | zero =>
    intro a ha hk
    have han := bit_lt hS ha
    obtain ⟨-, -, h3, h4⟩ := reach_facts hp han
    refine ⟨a, ha, sub_eq (h3 S hc ha) fun d hd => ?_⟩
    rcases q : (reachN xs a).testBit d with _ | _
    · have h5 := score_up hp han (bit_lt hS hd) (beats_reach hp han (bit_lt hS hd) q)
      have h6 : scK xs d ≤ 8 := by unfold scK; rw [pop_mem (tour_wins hp (bit_lt hS hd)).2.2]; exact memN_len _ _
      omega
    · rfl
  | succ k ih =>
    intro a ha hk
    have han := bit_lt hS ha
    obtain ⟨-, -, h3, h4⟩ := reach_facts hp han
    by_cases he : reachN xs a = S
    · exact ⟨a, ha, he⟩
    · have : ∃ d, S.testBit d = true ∧ (reachN xs a).testBit d = false := by
        apply Classical.byContradiction
        intro hno
        refine he (sub_eq (h3 S hc ha) fun d hd => ?_)
        rcases q : (reachN xs a).testBit d with _ | _
        · exact absurd ⟨d, hd, q⟩ hno
        · rfl
      obtain ⟨d, hd, hq⟩ := this
      have h5 := score_up hp han (bit_lt hS hd) (beats_reach hp han (bit_lt hS hd) hq)
      have h6 : scK xs d ≤ 8 := by unfold scK; rw [pop_mem (tour_wins hp (bit_lt hS hd)).2.2]; exact memN_len _ _
      exact ih d hd (by omega)
theorem add_disj {A B : Nat} (hA : A < 2 ^ 62) (hB : B < 2 ^ 62) (h : A &&& B = 0) : A + B = A ||| B := by
  have h1 : A < 2 ^ 64 := Nat.lt_trans hA (by decide)
  have h2 : B < 2 ^ 64 := Nat.lt_trans hB (by decide)
  have hb : (BitVec.ofNat 64 A) &&& (BitVec.ofNat 64 B) = 0#64 := by
    apply BitVec.eq_of_toNat_eq
    rw [BitVec.toNat_and, BitVec.toNat_ofNat, BitVec.toNat_ofNat, Nat.mod_eq_of_lt h1, Nat.mod_eq_of_lt h2, h]
    rfl
  have e1 : (2 : Nat) ^ 62 = 4611686018427387904 := by decide
  have e3 : (2 : Nat) ^ 64 = 18446744073709551616 := by decide
  have hlt : A + B < 2 ^ 64 := by omega
  have h3 := congrArg BitVec.toNat (BitVec.add_eq_or_of_and_eq_zero _ _ hb)
  rw [BitVec.toNat_add, BitVec.toNat_or, BitVec.toNat_ofNat, BitVec.toNat_ofNat, Nat.mod_eq_of_lt h1, Nat.mod_eq_of_lt h2, Nat.mod_eq_of_lt hlt] at h3
  exact h3
theorem less_sub {S T : Nat} (hS : S < 256) (hT : T < 256) (h : ∀ c, T.testBit c = true → S.testBit c = true) : less S T + T = S := by
  have h1 : less S T &&& T = 0 := Nat.eq_of_testBit_eq fun c => by
    rw [Nat.testBit_and, testBit_less, Nat.zero_testBit]
    cases S.testBit c <;> cases T.testBit c <;> rfl
  have h2 : less S T ||| T = S := Nat.eq_of_testBit_eq fun c => by
    rw [Nat.testBit_or, testBit_less]
    rcases q : T.testBit c with _ | _
    · simp
    · rw [h c q]; simp
  have h3 : less S T < 2 ^ 8 := less_lt hS
  have e : (256 : Nat) < 2 ^ 62 := by decide
  rw [add_disj (by omega) (by omega) h1, h2]
theorem top_sub (xs : List Int) (n S : Nat) : ∀ c, (topF xs n S).testBit c = true → S.testBit c = true := fun c h => by
  rw [testBit_topF] at h
  simp at h
  exact h.2.1
theorem rest_lt {s : Int} {xs : List Int} (hp : tourP s xs) {S : Nat} (hS : S < 2 ^ xs.length) (hc : clo xs S) (h0 : S ≠ 0) : less S (topF xs xs.length S) < S := by
  have hn : xs.length ≤ 8 := by have := hp.1; have := hp.2.1; omega
  have hp8 := pow_le hn
  have hT : topF xs xs.length S < 256 := setOf_small _ hn
  have h1 := less_sub (by omega) hT (top_sub xs xs.length S)
  obtain ⟨a, ha⟩ := Nat.exists_testBit_of_ne_zero h0
  obtain ⟨b, hb, hr⟩ := top_some hp hS hc 8 a ha (by omega)
  have h2 : (topF xs xs.length S).testBit b = true := by rw [testBit_topF]; simp [bit_lt hS hb, hb, hr]
  have h3 : topF xs xs.length S ≠ 0 := by intro e; rw [e] at h2; simp at h2
  omega
theorem rest_clo {s : Int} {xs : List Int} (hp : tourP s xs) {S : Nat} (hS : S < 2 ^ xs.length) (hc : clo xs S) : clo xs (less S (topF xs xs.length S)) := by
  intro b c hb hbc
  rw [testBit_less, Bool.and_eq_true] at hb
  have hbn := bit_lt hS hb.1
  have hcS := hc b c hb.1 hbc
  have hcn := bit_lt hS hcS
  obtain ⟨b1, b2, b3, -⟩ := reach_facts hp hbn
  obtain ⟨c1, c2, c3, -⟩ := reach_facts hp hcn
  rw [testBit_less, hcS, Bool.true_and]
  rcases q : (topF xs xs.length S).testBit c with _ | _
  · rfl
  · rw [testBit_topF] at q
    have hrc : reachN xs c = S := by simp at q; exact q.2.2
    have hrb : reachN xs b = S := sub_eq (b3 S hc hb.1) fun d hd => by
      rw [← hrc] at hd
      exact c3 _ b2 (b2 b c b1 hbc) d hd
    have : (topF xs xs.length S).testBit b = true := by rw [testBit_topF]; simp [hbn, hb.1, hrb]
    rw [this] at hb
    simp at hb
theorem parts_fuel {s : Int} {xs : List Int} (hp : tourP s xs) : ∀ f g S, S < f → S < g → S < 2 ^ xs.length → clo xs S → partsF xs xs.length f S = partsF xs xs.length g S := by
  intro f
  induction f with
  | zero => intro g S h; omega
  | succ f ih =>
    intro g S hf hg hS hc
    obtain ⟨g, rfl⟩ : ∃ k, g = k + 1 := ⟨g - 1, by omega⟩
    rw [partsF, partsF]
    split
    · rfl
    · rename_i h0
      have h1 := rest_lt hp hS hc h0
      rw [ih g _ (by omega) (by omega) (by omega) (rest_clo hp hS hc)]
def partsN (xs : List Int) (S : Nat) : List Nat := partsF xs xs.length (S + 1) S
theorem partsN_zero (xs : List Int) : partsN xs 0 = [] := by simp [partsN, partsF]
theorem partsN_step {s : Int} {xs : List Int} (hp : tourP s xs) {S : Nat} (hS : S < 2 ^ xs.length) (hc : clo xs S) (h0 : S ≠ 0) : partsN xs S = topF xs xs.length S :: partsN xs (less S (topF xs xs.length S)) := by
  have h1 := rest_lt hp hS hc h0
  unfold partsN
  rw [partsF, if_neg h0, parts_fuel hp S (less S (topF xs xs.length S) + 1) _ (by omega) (by omega) (by omega) (rest_clo hp hS hc)]
/-- one more part, from the back -/
theorem part_more {s : Int} {xs : List Int} (hp : tourP s xs) {K x : Nat} (hK : K < 2 ^ xs.length) (hc : clo xs K) (hx : x < xs.length) (hn : K.testBit x = false) (hlow : ∀ y, y < xs.length → scK xs y < scK xs x → K.testBit y = true) :
    less (reachN xs x) K = topF xs xs.length (reachN xs x) ∧ K ||| reachN xs x = reachN xs x ∧ less (reachN xs x) (topF xs xs.length (reachN xs x)) = K := by
  obtain ⟨x1, x2, x3, x4⟩ := reach_facts hp hx
  have hA : ∀ c, K.testBit c = true → (reachN xs x).testBit c = true := fun c h => by
    have hcn := bit_lt hK h
    have hne : x ≠ c := by intro e; subst e; rw [h] at hn; cases hn
    refine x2 x c x1 ?_
    rw [beat_one hp hx hcn hne]
    rcases q : (winsN xs c).testBit x with _ | _
    · rfl
    · rw [hc c x h q] at hn; cases hn
  have hB : ∀ c, (reachN xs x).testBit c = true → (K.testBit c = true ↔ ¬ reachN xs c = reachN xs x) := fun c h => by
    have hcn := bit_lt x4 h
    obtain ⟨c1, c2, c3, -⟩ := reach_facts hp hcn
    constructor
    · intro hk e
      have := c3 K hc hk x (by rw [e]; exact x1)
      rw [this] at hn; cases hn
    · intro hne
      refine hlow c hcn (score_up hp hcn hx (beats_reach hp hcn hx ?_))
      rcases q : (reachN xs c).testBit x with _ | _
      · rfl
      · exact absurd (sub_eq (c3 _ x2 h) (x3 _ c2 q)) hne
  refine ⟨Nat.eq_of_testBit_eq fun c => ?_, Nat.eq_of_testBit_eq fun c => ?_, Nat.eq_of_testBit_eq fun c => ?_⟩
  · rw [testBit_less, testBit_topF]
    rcases q : (reachN xs x).testBit c with _ | _
    · simp
    · have h1 := hB c q
      have h2 := bit_lt x4 q
      rcases k : K.testBit c with _ | _
      · rw [k] at h1
        have : reachN xs c = reachN xs x := Classical.byContradiction fun hne => by have := h1.2 hne; cases this
        simp [h2, this]
      · rw [k] at h1
        have := h1.1 rfl
        simp [this]
  · rw [Nat.testBit_or]
    rcases k : K.testBit c with _ | _
    · rfl
    · rw [hA c k]; rfl
  · rw [testBit_less, testBit_topF]
    rcases q : (reachN xs x).testBit c with _ | _
    · rcases k : K.testBit c with _ | _
      · rfl
      · rw [hA c k] at q; cases q
    · have h1 := hB c q
      have h2 := bit_lt x4 q
      rcases k : K.testBit c with _ | _
      · rw [k] at h1
        have : reachN xs c = reachN xs x := Classical.byContradiction fun hne => by have := h1.2 hne; cases this
        simp [h2, this]
      · rw [k] at h1
        have := h1.1 rfl
        simp [this]
theorem or_clo {xs : List Int} {A B : Nat} (hA : clo xs A) (hB : clo xs B) : clo xs (A ||| B) := fun b c hb hc => by
  rw [Nat.testBit_or, Bool.or_eq_true] at hb ⊢
  rcases hb with hb | hb
  · exact .inl (hA b c hb hc)
  · exact .inr (hB b c hb hc)
end Go.Proofs.YthoodjjjklbggaaGreatDoor

namespace Go.Proofs.YthoodjjjklbggaaGreatDoor
open Go.RowKit Go.Sort
set_option maxRecDepth 100000
section
variable {n : Nat} {xs : List Int}
theorem wins_n (hp : tourP n xs) {a : Nat} (ha : a < n) : winsN xs a < 2 ^ n := by
  have := (tour_wins hp (tour_len hp ▸ ha)).2.1
  rwa [show ((n : Int)).toNat = n from rfl] at this
theorem bt_hi (hp : tourP n xs) {a b : Nat} (ha : a < n) (hb : bt xs a b = true) : b < n := by
  rcases Nat.lt_or_ge b n with h | h
  · exact h
  · have := wins_hi hp (tour_len hp ▸ ha) (b := b) (by rw [tour_len hp]; exact h)
    unfold bt at hb
    rw [this] at hb; cases hb
/-- a king reaches everybody in two steps -/
theorem king_iff (hp : tourP n xs) {a : Nat} (ha : a < n) : kingN xs a = true ↔ ∀ c, c < n → c = a ∨ bt xs a c = true ∨ ∃ b, b < n ∧ bt xs a b = true ∧ bt xs b c = true := by
  have hl := tour_len hp
  have h8 : n ≤ 8 := by have := hp.1; omega
  have hb : ∀ c, (nearN xs a).testBit c = true ↔ (bt xs a c = true ∨ a = c) ∨ ∃ b, b < n ∧ bt xs a b = true ∧ bt xs b c = true := fun c => by
    unfold nearN
    rw [testBit_orK, Nat.testBit_or, Nat.testBit_two_pow]
    simp only [Bool.or_eq_true, decide_eq_true_eq, List.any_eq_true]
    constructor
    · rintro (h | ⟨b, hb, h⟩)
      · exact .inl h
      · have h2 := (mem_memN.1 hb).2
        exact .inr ⟨b, bt_hi hp ha h2, h2, h⟩
    · rintro (h | ⟨b, hb, h1, h2⟩)
      · exact .inl h
      · exact .inr ⟨b, mem_memN.2 ⟨by omega, h1⟩, h2⟩
  have hlt : nearN xs a < 2 ^ n := by
    have := orK_ltn (xs := xs) (fun b hb => by rw [hl]; exact wins_n hp (by rw [hl] at hb; exact hb)) (wins_mem hp (by omega : a < xs.length)) (S := winsN xs a ||| 2 ^ a) (by rw [hl]; exact Nat.or_lt_two_pow (wins_n hp ha) (Nat.pow_lt_pow_right (by decide) ha))
    rw [hl] at this
    exact this
  unfold kingN
  rw [hl, beq_iff_eq]
  constructor
  · intro e c hc
    have := hb c
    rw [e, testBit_full, decide_eq_true_eq] at this
    rcases this.1 hc with (h | h) | h
    · exact .inr (.inl h)
    · exact .inl h.symm
    · exact .inr (.inr h)
  · intro h
    refine Nat.eq_of_testBit_eq fun j => ?_
    rw [testBit_full]
    by_cases hj : j < n
    · rw [decide_eq_true hj]
      refine (hb j).2 ?_
      rcases h j hj with h | h | h
      · exact .inl (.inr h.symm)
      · exact .inl (.inl h)
      · exact .inr h
    · rw [decide_eq_false hj]
      exact Nat.testBit_lt_two_pow (Nat.lt_of_lt_of_le hlt (Nat.pow_le_pow_right (by decide) (by omega)))
theorem bt_flip (hp : tourP n xs) {a b : Nat} (ha : a < n) (hb : b < n) (hab : a ≠ b) : (bt xs a b = true ↔ bt xs b a = false) := by
  rw [(tr_bit hp ha hb).2 hab]
  cases bt xs b a <;> simp
theorem bt_asym (hp : tourP n xs) {a b : Nat} (ha : a < n) (hb : b < n) (h : bt xs a b = true) : bt xs b a = false ∧ a ≠ b := by
  have hab : a ≠ b := fun e => by rw [(tr_bit hp ha hb).1 e] at h; cases h
  exact ⟨(bt_flip hp ha hb hab).1 h, hab⟩
/-- c beats a, and all whom a beats -/
def cvN (xs : List Int) (n c a : Nat) : Prop := bt xs c a = true ∧ ∀ j, j < n → bt xs a j = true → bt xs c j = true
theorem king_cover (hp : tourP n xs) {a : Nat} (ha : a < n) : kingN xs a = false ↔ ∃ c, c < n ∧ cvN xs n c a := by
  constructor
  · intro hk
    have hk' : ¬ (∀ c, c < n → c = a ∨ bt xs a c = true ∨ ∃ b, b < n ∧ bt xs a b = true ∧ bt xs b c = true) := fun h => by rw [(king_iff hp ha).2 h] at hk; cases hk
    obtain ⟨c, hc⟩ := Classical.not_forall.1 hk'
    obtain ⟨hcn, h⟩ := Classical.not_imp.1 hc
    rw [not_or, not_or] at h
    obtain ⟨h1, h2, h3⟩ := h
    have hca : bt xs c a = true := (bt_flip hp hcn ha h1).2 (by simpa using h2)
    refine ⟨c, hcn, hca, fun j hj haj => ?_⟩
    have hcj : c ≠ j := fun e => by subst e; exact h2 haj
    refine (bt_flip hp hcn hj hcj).2 ?_
    rcases q : bt xs j c with _ | _
    · rfl
    · exact absurd ⟨j, hj, haj, q⟩ h3
  · rintro ⟨c, hc, h1, h2⟩
    rcases q : kingN xs a with _ | _
    · rfl
    · exfalso
      have hac := bt_asym hp hc ha h1
      rcases (king_iff hp ha).1 q c hc with h | h | ⟨b, hb, h3, h4⟩
      · exact hac.2 h
      · rw [hac.1] at h; cases h
      · have := h2 b hb h3
        rw [(bt_asym hp hb hc h4).1] at this; cases this
theorem kst_mem (hp : tourP n xs) {a b : Nat} : b ∈ loseN xs a xs.length ↔ b < n ∧ bt xs b a = true := by
  rw [mem_loseN, tour_len hp]
  constructor
  · rintro ⟨h1, h2⟩
    exact ⟨h1, by rw [← bitI_bt (tour_wins hp (by rw [tour_len hp]; exact h1)).1]; exact h2⟩
  · rintro ⟨h1, h2⟩
    exact ⟨h1, by rw [bitI_bt (tour_wins hp (by rw [tour_len hp]; exact h1)).1]; exact h2⟩
/-- the step: to a king who beats a, if anybody does -/
theorem kst_king (hp : tourP n xs) {a : Nat} (ha : a < n) (hex : ∃ b, b < n ∧ bt xs b a = true) : kstepN xs a < n ∧ bt xs (kstepN xs a) a = true ∧ kingN xs (kstepN xs a) = true := by
  have hself : a ∉ loseN xs a xs.length := fun h => by have := (kst_mem hp).1 h; rw [(tr_bit hp ha ha).1 rfl] at this; cases this.2
  rcases kstK_best (xs := xs) hself with ⟨e, _⟩ | ⟨hm, hx⟩
  · obtain ⟨b, hb, h⟩ := hex
    have := (kst_mem hp).2 ⟨hb, h⟩
    rw [e] at this; cases this
  · have hm' := (kst_mem hp).1 hm
    change kstepN xs a < n ∧ _ at hm'
    refine ⟨hm'.1, hm'.2, ?_⟩
    rcases q : kingN xs (kstepN xs a) with _ | _
    · exfalso
      obtain ⟨c, hc, h1, h2⟩ := (king_cover hp hm'.1).1 q
      have hca := h2 a ha hm'.2
      have h3 : popN 8 (winsN xs c) ≤ popN 8 (winsN xs (kstepN xs a)) := hx c ((kst_mem hp).2 ⟨hc, hca⟩)
      have e1 := sc_sum hp hc
      have e2 := sc_sum hp hm'.1
      have hle : sumN (fun b => if bt xs (kstepN xs a) b = true then (1 : Int) else 0) n + 1 ≤ sumN (fun b => if bt xs c b = true then (1 : Int) else 0) n := by
        have e3 : sumN (fun b => (if bt xs (kstepN xs a) b = true then (1 : Int) else 0) + (if b = kstepN xs a then 1 else 0)) n = sumN (fun b => if bt xs (kstepN xs a) b = true then (1 : Int) else 0) n + 1 := by
          rw [sumN_add, sumN_one hm'.1 (fun k _ hk => if_neg hk), if_pos rfl]
        rw [← e3]
        have : ∀ m, m ≤ n → sumN (fun b => (if bt xs (kstepN xs a) b = true then (1 : Int) else 0) + (if b = kstepN xs a then 1 else 0)) m ≤ sumN (fun b => if bt xs c b = true then (1 : Int) else 0) m := by
          intro m
          induction m with
          | zero => intro _; simp [sumN]
          | succ m ih =>
            intro hm
            have ih := ih (by omega)
            rw [sumN, sumN]
            have : (if bt xs (kstepN xs a) m = true then (1 : Int) else 0) + (if m = kstepN xs a then 1 else 0) ≤ if bt xs c m = true then (1 : Int) else 0 := by
              by_cases e : m = kstepN xs a
              · rw [if_pos e, e, (tr_bit hp hm'.1 hm'.1).1 rfl, if_pos h1]; simp
              · rw [if_neg e]
                rcases q2 : bt xs (kstepN xs a) m with _ | _
                · simp; split <;> omega
                · rw [h2 m (by omega) q2]; simp
            omega
        exact this n (Nat.le_refl _)
      rw [← e1, ← e2] at hle
      unfold scN at hle
      omega
    · rfl
theorem kst_none {a : Nat} (hp : tourP n xs) (hno : ∀ b, b < n → bt xs b a = false) : kstepN xs a = a := by
  have : loseN xs a xs.length = [] := List.eq_nil_iff_forall_not_mem.2 fun b hb => by
    have := (kst_mem hp).1 hb
    rw [hno b this.1] at this; cases this.2
  unfold kstepN
  rw [this]
  rfl
/-- the set of kings -/
def kgS (xs : List Int) (n : Nat) : Nat := setOf (fun a => kingN xs a) n
theorem kg_bit {a : Nat} : (kgS xs n).testBit a = true ↔ a < n ∧ kingN xs a = true := by
  unfold kgS
  rw [testBit_setOf]
  simp
theorem kg_lt : kgS xs n < 2 ^ n := setOf_lt _ _
/-- a sovereign beats everybody -/
def svP (xs : List Int) (n a : Nat) : Prop := a < n ∧ ∀ b, b < n → bt xs b a = false
theorem sv_score (hp : tourP n xs) {a : Nat} (ha : a < n) : scN xs a = n - 1 ↔ svP xs n a := by
  have h := by_sum hp ha
  constructor
  · intro e
    have h0 : sumN (fun b => if bt xs b a = true then (1 : Int) else 0) n = 0 := by omega
    refine ⟨ha, fun b hb => ?_⟩
    rcases q : bt xs b a with _ | _
    · rfl
    · exfalso
      have h1 : sumN (fun k => if k = b then (1 : Int) else 0) n ≤ sumN (fun b => if bt xs b a = true then (1 : Int) else 0) n := by
        have : 0 ≤ sumN (fun k => (if bt xs k a = true then (1 : Int) else 0) - if k = b then 1 else 0) n := sumN_nonneg fun k hk => by
          by_cases e : k = b
          · subst e; rw [q]; simp
          · rw [if_neg e]; split <;> omega
        rw [sumN_sub] at this
        omega
      rw [sumN_one hb (fun k _ hk => if_neg hk), if_pos rfl] at h1
      omega
  · rintro ⟨-, h1⟩
    have h0 : sumN (fun b => if bt xs b a = true then (1 : Int) else 0) n = 0 := sumN_zero' fun b hb => by rw [h1 b hb]; rfl
    omega
theorem sv_king (hp : tourP n xs) {a : Nat} (h : svP xs n a) : ∀ b, b < n → (kingN xs b = true ↔ b = a) := by
  intro b hb
  have hall : ∀ c, c < n → c ≠ a → bt xs a c = true := fun c hc hca => (bt_flip hp h.1 hc (Ne.symm hca)).2 (h.2 c hc)
  constructor
  · intro hk
    refine Classical.byContradiction fun hba => ?_
    rcases (king_iff hp hb).1 hk a h.1 with e | e | ⟨c, hc, -, e⟩
    · exact hba e.symm
    · rw [h.2 b hb] at e; cases e
    · rw [h.2 c hc] at e; cases e
  · rintro rfl
    refine (king_iff hp hb).2 fun c hc => ?_
    by_cases e : c = b
    · exact .inl e
    · exact .inr (.inl (hall c hc e))
theorem king_ex (hp : tourP n xs) : ∃ a, a < n ∧ kingN xs a = true := by
  have hn : 0 < n := by have := hp.1; omega
  by_cases h : ∃ b, b < n ∧ bt xs b 0 = true
  · have := kst_king hp hn h
    exact ⟨_, this.1, this.2.2⟩
  · have hs : svP xs n 0 := ⟨hn, fun b hb => by
      rcases q : bt xs b 0 with _ | _
      · rfl
      · exact absurd ⟨b, hb, q⟩ h⟩
    exact ⟨0, hn, (sv_king hp hs 0 hn).2 rfl⟩
theorem three_len {l : List Nat} {a b c : Nat} (ha : a ∈ l) (hb : b ∈ l) (hc : c ∈ l) (h1 : a ≠ b) (h2 : a ≠ c) (h3 : b ≠ c) : 3 ≤ l.length := by
  have e1 := List.length_erase_of_mem ha
  have hb' : b ∈ l.erase a := (List.mem_erase_of_ne (Ne.symm h1)).2 hb
  have hc' : c ∈ l.erase a := (List.mem_erase_of_ne (Ne.symm h2)).2 hc
  have e2 := List.length_erase_of_mem hb'
  have hc'' : c ∈ (l.erase a).erase b := (List.mem_erase_of_ne (Ne.symm h3)).2 hc'
  have e3 := List.length_pos_of_mem hc''
  omega
/-- one king, who is the sovereign, or three at least -/
theorem king_three (hp : tourP n xs) (hno : ∀ a, ¬ svP xs n a) : 3 ≤ popN 8 (kgS xs n) := by
  have h8 : n ≤ 8 := by have := hp.1; omega
  have hdom : ∀ a, a < n → ∃ b, b < n ∧ bt xs b a = true := fun a ha => by
    refine Classical.byContradiction fun h => hno a ⟨ha, fun b hb => ?_⟩
    rcases q : bt xs b a with _ | _
    · rfl
    · exact absurd ⟨b, hb, q⟩ h
  obtain ⟨a, ha, ka⟩ := king_ex hp
  obtain ⟨hb, ba, kb⟩ := kst_king hp ha (hdom a ha)
  generalize kstepN xs a = b at *
  obtain ⟨hc, cb, kc⟩ := kst_king hp hb (hdom b hb)
  generalize kstepN xs b = c at *
  have h256 : kgS xs n < 256 := Nat.lt_of_lt_of_le kg_lt (Nat.pow_le_pow_right (n := 2) (j := 8) (by decide) h8)
  rw [pop_mem h256]
  have hca : c ≠ a := fun e => by subst e; rw [(bt_asym hp hc hb cb).1] at ba; cases ba
  exact three_len (a := a) (b := b) (c := c) (mem_memN.2 ⟨by omega, kg_bit.2 ⟨ha, ka⟩⟩) (mem_memN.2 ⟨by omega, kg_bit.2 ⟨hb, kb⟩⟩) (mem_memN.2 ⟨by omega, kg_bit.2 ⟨hc, kc⟩⟩) (Ne.symm (bt_asym hp hb ha ba).2) (Ne.symm hca) (Ne.symm (bt_asym hp hc hb cb).2)
theorem sv_kings (hp : tourP n xs) {a : Nat} (h : svP xs n a) : kgS xs n = 2 ^ a := by
  refine Nat.eq_of_testBit_eq fun j => ?_
  rw [Nat.testBit_two_pow]
  rw [Bool.eq_iff_iff, kg_bit, decide_eq_true_eq]
  constructor
  · rintro ⟨hj, hk⟩; exact ((sv_king hp h j hj).1 hk).symm
  · rintro rfl; exact ⟨h.1, (sv_king hp h a h.1).2 rfl⟩
theorem pop_pow {a : Nat} (h : a < 8) : popN 8 (2 ^ a) = 1 := by
  have : ∀ a : Fin 8, popN 8 (2 ^ a.1) = 1 := by decide
  exact this ⟨a, h⟩
end
end Go.Proofs.YthoodjjjklbggaaGreatDoor

namespace Go.Proofs.YthoodjjjklbggaaGreatDoor
open Go.RowKit Go.Sort
set_option maxRecDepth 100000
def ctN : Nat → Nat
  | 1 => 0x0
  | 2 => 0x2
  | 3 => 0x4
  | 4 => 0x4000e08
  | 5 => 0x8000800081e1c10
  | 6 => 0x800000000000000000000000008080000000000000000000010001c00000010001000100010003e3e3e3e103e103e103c3820
  | 7 => 0x80000000000000000000000000000000000000000000000000000000000000000000000000000000000000010000000000000000000000000000000000000000000000000000000000000000000000010000000000000000000101000000000000000000000000000001000000000100000000000100000000000101000000000000000000000000000000000000000000000000000000000000000000000000000000000000000000000100000000000000000000000000000000000000000000000000000000000000000000000000000000000100000000000000000001000000000001000000000000000000010000000000010000000000010100000000000001010000000000000101000000000000010100000000000001010000000000000000000000000000010100000000000000000000020000000000020002000200010003c0000000000000010000000000010100000000000003800000020002000200020003800000020002000200020007e7e7e7e7e107e7e7e7e7e7e7e7e7e7e7e7e10107e7e7e7e7e7e7e7e7e7e207e387e7e7e207e207e207e207e7c7c7c7c207c207c20787040
  | _ => 0
def ct (n j : Nat) : Nat := (ctN n >>> (8 * j)) % 256
/-- a set that beats all others -/
def ctOk (n T S : Nat) : Bool := Nat.blt 0 S && Nat.blt S (2 ^ n - 1) && (List.range n).all fun a => (List.range n).all fun b => !(S.testBit a) || S.testBit b || bN T a b
/-- a way goes on to one that comes back; the way is written backwards -/
def cyF (T n a : Nat) : Nat → List Nat → Bool
  | 0, way => bN T (way.headD 0) a
  | m + 1, way => (List.range n).any fun b => bN T (way.headD 0) b && (!(way.contains b) && cyF T n a m (b :: way))
theorem cyc_all : ∀ n, n < 7 → ((List.range (rc n)).all fun j => ctOk n (rp n j) (ct n j) || (List.range n).all fun a => (List.range (n - 2)).all fun k => cyF (rp n j) n a (k + 2) [a]) = true := by decide +kernel
theorem ham_all : ∀ n, n < 8 → 3 ≤ n → ((List.range (rc n)).all fun j => ctOk n (rp n j) (ct n j) || cyF (rp n j) n 0 (n - 1) [0]) = true := by decide +kernel
end Go.Proofs.YthoodjjjklbggaaGreatDoor

namespace Go.Proofs.YthoodjjjklbggaaGreatDoor
open Go.RowKit Go.Sort
set_option maxRecDepth 100000
theorem run_neq_slice_nil {P : Program} (w : World) (t e : TypeId) (a : Option Addr) (n c n' c' : Nat) (h : P.underlying t = some (.slice e)) :
    (binOp .neq t (.slice a n c) (.slice none n' c')).run P w = .ok (.bool (!a.isNone)) w := by
  simp only [binOp]
  simp [Op.equal, Op.maxDepth, Lib.run_equalIn_slice_nil w 9999 t e a n c n' c' h]
theorem grown_new {a b c : World} {row row' : Option Nat} (h : a.grownBy b row) (k : b.grownBy c row') (hn : ∀ g, row' = some g → a.heap.size ≤ g ∨ some g = row) : a.grownBy c row :=
  ⟨k.os.trans h.os, k.tape.trans h.tape, k.output.trans h.output, Nat.le_trans h.size k.size, fun i hi hne => (k.block i (Nat.lt_of_lt_of_le hi h.size) (fun e => by
    rcases hn i e.symm with h1 | h1
    · omega
    · exact hne h1)).trans (h.block i hi hne)⟩
theorem grown_below {a b : World} (h : Below a.heap.size a b) (row : Option Nat) : a.grownBy b row := ⟨h.os, h.tape, h.output, h.size, fun i hi _ => h.block i hi⟩
theorem below_of_grown {C a b : World} {row : Option Nat} (h : Below C.heap.size C a) (k : a.grownBy b row) (hr : ∀ g, row = some g → C.heap.size ≤ g) : Below C.heap.size C b := h.grown k h.size hr
theorem memN_at' {S n b : Nat} (h : b ∈ memN S n) : b < n := (mem_memN.1 h).1
theorem cell_new1 (w : World) (x : Value) (t : TypeId) : (w.alloc (.cells #[x] t)).cell? ⟨w.heap.size, 0, none⟩ = some x := by simp
theorem ne5 {W : World} {B g g5 q l c c5 : Nat} (hB : B < W.heap.size) (hg : B ≠ g) (hat : Value.slice (some ⟨g, 0, none⟩) q c = .slice (some ⟨g5, 0, none⟩) l c5 ∨ g5 = W.heap.size) : some B ≠ (Value.slice (some ⟨g5, 0, none⟩) (l + 1) c5).ownBlock := by
  intro h
  injection h with h
  have h : B = g5 := h
  rcases hat with e | e
  · injection e with e1 _ _
    injection e1 with e1
    injection e1 with e1 _ _
    omega
  · omega
def WantP (F : FuncId) (caps : Array Value) (want : List Nat → Bool) (k n : Nat) (wC : World) : Prop :=
  ∀ (way : List Nat) (v : Value) (W : World), way.length = k → (∀ x ∈ way, x < n) → Below wC.heap.size wC W → Rd W v (nI way) →
    Calls Tryz.prog F (#[v] ++ caps) W fun e w'' => e = .returned (.bool (want way)) ∧ Below W.heap.size W w''
end Go.Proofs.YthoodjjjklbggaaGreatDoor

namespace Go.Proofs.YthoodjjjklbggaaGreatDoor
open Go.RowKit

def findIR (p : R4 → Bool) (xs : List R4) : Int := match xs.findIdx? p with | some k => (k : Int) | none => -1

theorem findI_anyR (p : R4 → Bool) (xs : List R4) : decide (0 ≤ findIR p xs) = xs.any p := by
  unfold findIR
  rcases h : xs.findIdx? p with _ | k
  · rw [List.findIdx?_eq_none_iff] at h
    have : xs.any p = false := by simpa using h
    rw [this]; rfl
  · have hh := List.findIdx?_eq_some_iff_getElem.1 h
    obtain ⟨hl, hp, _⟩ := hh
    have : xs.any p = true := by rw [List.any_eq_true]; exact ⟨_, List.getElem_mem hl, hp⟩
    rw [this]; simp
theorem findI_missR {p : R4 → Bool} {xs : List R4} (h : ∀ x ∈ xs, p x = false) : findIR p xs = -1 := by
  unfold findIR
  have : xs.findIdx? p = none := by rw [List.findIdx?_eq_none_iff]; simpa using h
  rw [this]
theorem findI_hitR {p : R4 → Bool} {xs : List R4} {k : Nat} (hk : k < xs.length) (hp : p (r4At xs k) = true) (h : ∀ x ∈ xs.take k, p x = false) : findIR p xs = k := by
  unfold findIR
  have e : r4At xs k = xs[k] := by simp [r4At, hk]
  rw [e] at hp
  have : xs.findIdx? p = some k := by
    rw [List.findIdx?_eq_some_iff_getElem]
    refine ⟨hk, hp, fun j hj => ?_⟩
    have := h xs[j] (by
      rw [List.mem_iff_getElem?]
      exact ⟨j, by rw [List.getElem?_take, if_pos hj, List.getElem?_eq_getElem]⟩)
    simp [this]
  rw [this]
theorem findI_stepR {p : R4 → Bool} {xs : List R4} {k : Nat} (hk : k < xs.length) (hp : p (r4At xs k) = false) (h : ∀ x ∈ xs.take k, p x = false) : ∀ x ∈ xs.take (k + 1), p x = false := by
  rw [List.take_succ_eq_append_getElem hk]
  have e : r4At xs k = xs[k] := by simp [r4At, hk]
  rw [e] at hp
  intro x hx
  rw [List.mem_append, List.mem_singleton] at hx
  rcases hx with hx | rfl
  · exact h x hx
  · exact hp

end Go.Proofs.YthoodjjjklbggaaGreatDoor

namespace Go.Proofs.YthoodjjjklbggaaGreatDoor
open Go.RowKit Go.Sort

/-- what is asked of a result in a league of s clubs -/
def resB (s : Int) (r : R4) : Bool := inB r.1 0 (s - 1) && (inB r.2.1 0 (s - 1) && (!(r.1 == r.2.1) && (inB r.2.2.1 0 99 && inB r.2.2.2 0 99)))
def leagueB (s : Int) (rs : List R4) : Bool := inB s 2 8 && (decide (rs.length ≤ 60) && rs.all (resB s))
theorem leagueB_true {s : Int} {rs : List R4} : leagueB s rs = true ↔ (2 ≤ s ∧ s ≤ 8) ∧ rs.length ≤ 60 ∧ ∀ r ∈ rs, resB s r = true := by
  simp [leagueB, inB_true]
theorem resB_true {s : Int} {r : R4} : resB s r = true ↔ (0 ≤ r.1 ∧ r.1 ≤ s - 1) ∧ (0 ≤ r.2.1 ∧ r.2.1 ≤ s - 1) ∧ r.1 ≠ r.2.1 ∧ (0 ≤ r.2.2.1 ∧ r.2.2.1 ≤ 99) ∧ (0 ≤ r.2.2.2 ∧ r.2.2.2 ≤ 99) := by
  simp [resB, inB_true]

end Go.Proofs.YthoodjjjklbggaaGreatDoor

namespace Go.Proofs.YthoodjjjklbggaaGreatDoor
open Go.RowKit Go.Sort
set_option maxRecDepth 100000
def cwA (xs : List Int) (a : Nat) (way : List Nat) : Bool := (winsN xs (lastN way)).testBit a
noncomputable def cycOk (s : Int) (xs : List Int) (a k : Int) : Bool := tourB s xs && inB a 0 (s - 1) && inB k 3 s
noncomputable def cycO (s : Int) (xs : List Int) (a k : Int) : Option (List Nat) := if cycOk s xs a k = true then dfs xs xs.length (cwA xs a.toNat) (k.toNat - 1) [a.toNat] else none
noncomputable def cycL (s : Int) (xs : List Int) (a k : Int) : List Int := nI ((cycO s xs a k).getD [])
theorem cycO_no {s : Int} {xs : List Int} {a k : Int} (h : cycOk s xs a k = false) : cycO s xs a k = none := by simp [cycO, h]
theorem cycL_len (s : Int) (xs : List Int) (a k : Int) : (cycL s xs a k).length ≤ 8 := by
  unfold cycL
  rw [nI_len]
  unfold cycO
  split
  · rename_i h
    rcases q : dfs xs xs.length (cwA xs a.toNat) (k.toNat - 1) [a.toNat] with _ | L
    · simp
    · have h1 := dfs_len q
      unfold cycOk at h
      rw [Bool.and_eq_true, Bool.and_eq_true] at h
      have h2 := (tourB_true.1 h.1.1).1
      have h3 := inB_true.1 h.2
      simp at h1 ⊢
      omega
  · simp
end Go.Proofs.YthoodjjjklbggaaGreatDoor

namespace Go.Proofs.YthoodjjjklbggaaGreatDoor
open Go.RowKit Go.Sort
set_option maxRecDepth 100000
def lvHit (xs : List Int) (n r : Nat) (f : Nat → Int) (a : Nat) : Bool := (memN (winsN xs a) n).any fun c => f c == (r : Int)
def lv (xs : List Int) (n b : Nat) : Nat → Nat → Int
  | 0, a => if a = b then 0 else -1
  | r + 1, a => if lv xs n b r a < 0 ∧ lvHit xs n r (lv xs n b r) a = true then (r : Int) + 1 else lv xs n b r a
theorem lv_succ (xs : List Int) (n b r a : Nat) : lv xs n b (r + 1) a = if lv xs n b r a < 0 ∧ lvHit xs n r (lv xs n b r) a = true then (r : Int) + 1 else lv xs n b r a := rfl
theorem lv_bd (xs : List Int) (n b : Nat) : ∀ r a, -1 ≤ lv xs n b r a ∧ lv xs n b r a ≤ r := by
  intro r
  induction r with
  | zero => intro a; simp only [lv]; split <;> omega
  | succ r ih => intro a; have := ih a; rw [lv_succ]; split <;> omega
theorem lv_keep {xs : List Int} {n b r a : Nat} (h : 0 ≤ lv xs n b r a) : ∀ d, lv xs n b (r + d) a = lv xs n b r a := by
  intro d
  induction d with
  | zero => rfl
  | succ d ih => rw [← Nat.add_assoc, lv_succ, if_neg (by rw [ih]; omega), ih]
theorem lv_keep' {xs : List Int} {n b r r' a : Nat} (h : 0 ≤ lv xs n b r a) (hr : r ≤ r') : lv xs n b r' a = lv xs n b r a := by
  obtain ⟨d, rfl⟩ := Nat.exists_eq_add_of_le hr
  exact lv_keep h d
theorem lv_at {xs : List Int} {n b : Nat} {d : Nat} : ∀ {r a : Nat}, lv xs n b r a = (d : Int) → d ≤ r ∧ lv xs n b d a = (d : Int) := by
  intro r
  induction r with
  | zero =>
    intro a h
    have := lv_bd xs n b 0 a
    have hd : d = 0 := by omega
    subst hd
    exact ⟨Nat.le_refl _, h⟩
  | succ r ih =>
    intro a h
    by_cases hc : lv xs n b r a < 0 ∧ lvHit xs n r (lv xs n b r) a = true
    · rw [lv_succ, if_pos hc] at h
      have hd : d = r + 1 := by omega
      subst hd
      exact ⟨Nat.le_refl _, by rw [lv_succ, if_pos hc]; omega⟩
    · rw [lv_succ, if_neg hc] at h
      have := ih h
      exact ⟨by omega, this.2⟩
theorem lv_zero {xs : List Int} {n b r a : Nat} (h : lv xs n b r a = 0) : a = b := by
  have := (lv_at (d := 0) h).2
  simp only [lv] at this
  split at this
  · assumption
  · omega
theorem lv_b (xs : List Int) (n b r : Nat) : lv xs n b r b = 0 := by
  have h0 : lv xs n b 0 b = 0 := by simp [lv]
  rw [lv_keep' (r := 0) (by rw [h0]; omega) (by omega), h0]
theorem lvHit_iff {xs : List Int} {n r : Nat} {f : Nat → Int} {a : Nat} : lvHit xs n r f a = true ↔ ∃ c, c ∈ memN (winsN xs a) n ∧ f c = (r : Int) := by
  unfold lvHit
  rw [List.any_eq_true]
  simp
theorem lv_pred {xs : List Int} {n b r a d : Nat} (h : lv xs n b r a = ((d + 1 : Nat) : Int)) : ∃ c, c ∈ memN (winsN xs a) n ∧ lv xs n b r c = (d : Int) := by
  obtain ⟨h1, h2⟩ := lv_at h
  rw [lv_succ] at h2
  by_cases hc : lv xs n b d a < 0 ∧ lvHit xs n d (lv xs n b d) a = true
  · obtain ⟨c, hm, hv⟩ := lvHit_iff.1 hc.2
    exact ⟨c, hm, by rw [lv_keep' (r := d) (by omega) (by omega)]; exact hv⟩
  · rw [if_neg hc] at h2
    have := (lv_bd xs n b d a).2
    omega
theorem lv_step {xs : List Int} {n b a c d : Nat} (hc : c ∈ memN (winsN xs a) n) (h : lv xs n b n c = (d : Int)) (hd : d < n) : 0 ≤ lv xs n b n a ∧ lv xs n b n a ≤ d + 1 := by
  have h2 := (lv_at h).2
  have h3 : 0 ≤ lv xs n b (d + 1) a ∧ lv xs n b (d + 1) a ≤ d + 1 := by
    have hb := lv_bd xs n b (d + 1) a
    refine ⟨?_, by omega⟩
    rw [lv_succ]
    by_cases hl : lv xs n b d a < 0
    · rw [if_pos ⟨hl, lvHit_iff.2 ⟨c, hc, h2⟩⟩]; omega
    · rw [if_neg (fun h => hl h.1)]; omega
  rw [lv_keep' (r := d + 1) h3.1 (by omega)]
  exact h3
theorem lv_chain {xs : List Int} {n b : Nat} : ∀ (d a : Nat), a < n → lv xs n b n a = (d : Int) → ∃ l : List Nat, l.length = d + 1 ∧ l.Nodup ∧ ∀ x ∈ l, x < n ∧ lv xs n b n x ≤ d := by
  intro d
  induction d with
  | zero => intro a ha h; exact ⟨[a], rfl, by simp, fun x hx => by simp at hx; subst hx; exact ⟨ha, by omega⟩⟩
  | succ d ih =>
    intro a ha h
    obtain ⟨c, hc, hv⟩ := lv_pred h
    obtain ⟨l, h1, h2, h3⟩ := ih c (mem_memN.1 hc).1 hv
    refine ⟨a :: l, by simp [h1], ?_, fun x hx => ?_⟩
    · rw [List.nodup_cons]
      exact ⟨fun hm => by have := (h3 a hm).2; omega, h2⟩
    · rw [List.mem_cons] at hx
      rcases hx with rfl | hx
      · exact ⟨ha, by omega⟩
      · have := h3 x hx; exact ⟨this.1, by omega⟩
theorem lv_top {xs : List Int} {n b a d : Nat} (ha : a < n) (h : lv xs n b n a = (d : Int)) : d < n := by
  obtain ⟨l, h1, h2, h3⟩ := lv_chain d a ha h
  have h4 := nodup_le n (nI l) (List.Pairwise.map _ (fun a b hab h => hab (by omega)) h2) (fun y hy => by
    unfold nI at hy
    rw [List.mem_map] at hy
    obtain ⟨x, hx, rfl⟩ := hy
    have := (h3 x hx).1
    omega)
  rw [nI_len] at h4
  omega
def nxt (xs : List Int) (n b : Nat) (m a : Nat) : Nat := ((memN (winsN xs a) n).find? fun c => lv xs n b n c == (m : Int)).getD 0
def gw (xs : List Int) (n b : Nat) : Nat → Nat → List Nat
  | 0, _ => []
  | m + 1, a => nxt xs n b m a :: gw xs n b m (nxt xs n b m a)
theorem gw_len (xs : List Int) (n b : Nat) : ∀ m a, (gw xs n b m a).length = m := by
  intro m
  induction m with
  | zero => intro a; rfl
  | succ m ih => intro a; simp [gw, ih]
def wB (b : Nat) (way : List Nat) : Bool := lastN way == b
theorem lastN_snoc (l : List Nat) (b : Nat) : lastN (l ++ [b]) = b := by simp [lastN]
theorem dfs_lv {xs : List Int} {n b : Nat} : ∀ m way L, m < n → way ≠ [] → dfs xs n (wB b) m way = some L → 0 ≤ lv xs n b n (lastN way) ∧ lv xs n b n (lastN way) ≤ m := by
  intro m
  induction m with
  | zero =>
    intro way L hm hw h
    rw [dfs] at h
    split at h
    · rename_i hq
      have : lastN way = b := by simpa [wB] using hq
      rw [this, lv_b]; omega
    · cases h
  | succ m ih =>
    intro way L hm hw h
    rw [dfs] at h
    obtain ⟨c, hc, hs⟩ := List.exists_of_findSome?_eq_some h
    have h2 := ih (way ++ [c]) L (by omega) (by simp) hs
    rw [lastN_snoc] at h2
    obtain ⟨e, he⟩ := Int.eq_ofNat_of_zero_le h2.1
    have h3 := lv_step ((List.mem_filter.1 hc).1) he (by omega)
    omega
theorem find_some {β : Type} {l : List Nat} {p : Nat → Bool} {F : Nat → Option β} {c : Nat} {y : β} (hf : l.find? p = some c) (h : ∀ x ∈ l, p x = false → F x = none) (hy : F c = some y) : l.findSome? F = some y := by
  induction l with
  | nil => cases hf
  | cons x l ih =>
    rcases q : p x with _ | _
    · rw [List.find?_cons, q] at hf
      rw [List.findSome?_cons, h x (by simp) q]
      exact ih hf (fun z hz => h z (by simp [hz]))
    · rw [List.find?_cons, q] at hf
      injection hf with hf
      subst hf
      rw [List.findSome?_cons, hy]
theorem nxt_find {xs : List Int} {n b m a : Nat} (h : lv xs n b n a = ((m + 1 : Nat) : Int)) : (memN (winsN xs a) n).find? (fun c => lv xs n b n c == (m : Int)) = some (nxt xs n b m a) ∧ nxt xs n b m a ∈ memN (winsN xs a) n ∧ lv xs n b n (nxt xs n b m a) = (m : Int) := by
  obtain ⟨c, hc, hv⟩ := lv_pred h
  rcases q : (memN (winsN xs a) n).find? (fun c => lv xs n b n c == (m : Int)) with _ | c0
  · rw [List.find?_eq_none] at q
    exact absurd (by simpa using hv) (q c hc)
  · have e : nxt xs n b m a = c0 := by unfold nxt; rw [q]; rfl
    have h1 := List.find?_some q
    have h2 := List.mem_of_find?_eq_some q
    rw [e]
    exact ⟨rfl, h2, by simpa using h1⟩
theorem dfs_gw {xs : List Int} {n b : Nat} : ∀ m way, m < n → way ≠ [] → lv xs n b n (lastN way) = (m : Int) → (∀ x ∈ way, (m : Int) ≤ lv xs n b n x) → dfs xs n (wB b) m way = some (way ++ gw xs n b m (lastN way)) := by
  intro m
  induction m with
  | zero =>
    intro way hm hw h ha
    have : lastN way = b := lv_zero h
    rw [dfs, if_pos (by simp [wB, this])]
    simp [gw]
  | succ m ih =>
    intro way hm hw h ha
    obtain ⟨hf, hmem, hv⟩ := nxt_find h
    have e : dfs xs n (wB b) (m + 1) way = (memN (winsN xs (lastN way)) n).findSome? fun c => if (!way.contains c) = true then dfs xs n (wB b) m (way ++ [c]) else none := by
      have : ∀ (l : List Nat) (p : Nat → Bool) (F : Nat → Option (List Nat)), (l.filter p).findSome? F = l.findSome? fun b => if p b = true then F b else none := by
        intro l p F
        induction l with
        | nil => rfl
        | cons x l ih =>
          rcases q : p x with _ | _
          · rw [List.filter_cons_of_neg (by simp [q]), ih, List.findSome?_cons]; simp [q]
          · rw [List.filter_cons_of_pos q, List.findSome?_cons, List.findSome?_cons, ih]; simp [q]
      exact this _ _ _
    rw [e]
    refine find_some hf (fun c hc hp => ?_) ?_
    · split
      · rcases q : dfs xs n (wB b) m (way ++ [c]) with _ | L
        · rfl
        · have h1 := dfs_lv m (way ++ [c]) L (by omega) (by simp) q
          rw [lastN_snoc] at h1
          obtain ⟨d, hd⟩ := Int.eq_ofNat_of_zero_le h1.1
          have h2 := lv_step hc hd (by omega)
          have : ¬ lv xs n b n c = (m : Int) := by simpa using hp
          omega
      · rfl
    · have hni : ¬ nxt xs n b m (lastN way) ∈ way := fun hm => by have := ha _ hm; omega
      rw [if_pos (by simpa using hni), ih (way ++ [nxt xs n b m (lastN way)]) (by omega) (by simp) (by rw [lastN_snoc]; exact hv) (fun x hx => by
        rw [List.mem_append, List.mem_singleton] at hx
        rcases hx with hx | rfl
        · have := ha x hx; omega
        · omega), lastN_snoc, gw, List.append_assoc]
      rfl
noncomputable def wbOk (s : Int) (xs : List Int) (a b : Int) : Bool := tourB s xs && inB a 0 (s - 1) && inB b 0 (s - 1)
noncomputable def wbO (s : Int) (xs : List Int) (a b : Int) : Option (List Nat) :=
  if wbOk s xs a b = true then (if lv xs xs.length b.toNat xs.length a.toNat < 0 then none else some (a.toNat :: gw xs xs.length b.toNat (lv xs xs.length b.toNat xs.length a.toNat).toNat a.toNat)) else none
noncomputable def wbL (s : Int) (xs : List Int) (a b : Int) : List Int := nI ((wbO s xs a b).getD [])
theorem wbO_no {s : Int} {xs : List Int} {a b : Int} (h : wbOk s xs a b = false) : wbO s xs a b = none := by simp [wbO, h]
theorem wbL_len (s : Int) (xs : List Int) (a b : Int) : (wbL s xs a b).length ≤ 16 := by
  unfold wbL
  rw [nI_len]
  unfold wbO
  split
  · rename_i h
    unfold wbOk at h
    rw [Bool.and_eq_true, Bool.and_eq_true] at h
    have hp := tourB_true.1 h.1.1
    have h2 := hp.1
    have h3 := hp.2.1
    split
    · simp
    · have := (lv_bd xs xs.length b.toNat xs.length a.toNat).2
      simp [gw_len]
      omega
  · simp
/-- the first length that leads there -/
theorem wb_hit {xs : List Int} {n a b k : Nat} {L : List Nat} (hk : k < n) (h0 : ∀ j, j < k → dfs xs n (wB b) j [a] = none) (h : dfs xs n (wB b) k [a] = some L) : lv xs n b n a = (k : Int) ∧ L = a :: gw xs n b k a := by
  have h1 := dfs_lv k [a] L hk (by simp) h
  have e : lastN [a] = a := rfl
  rw [e] at h1
  obtain ⟨d, hd⟩ := Int.eq_ofNat_of_zero_le h1.1
  have h2 := dfs_gw d [a] (by omega) (by simp) hd (fun x hx => by simp at hx; subst hx; omega)
  have hdk : d = k := by
    rcases Nat.lt_or_ge d k with h3 | h3
    · rw [h0 d h3] at h2; cases h2
    · omega
  subst hdk
  rw [h] at h2
  injection h2 with h2
  exact ⟨hd, h2⟩
theorem wb_miss {xs : List Int} {n a b : Nat} (ha : a < n) (h0 : ∀ j, j < n → dfs xs n (wB b) j [a] = none) : lv xs n b n a < 0 := by
  rcases Int.lt_or_le (lv xs n b n a) 0 with h | h
  · exact h
  · obtain ⟨d, hd⟩ := Int.eq_ofNat_of_zero_le h
    have h1 := lv_top ha hd
    have h2 := dfs_gw d [a] h1 (by simp) hd (fun x hx => by simp at hx; subst hx; omega)
    rw [h0 d h1] at h2
    cases h2
end Go.Proofs.YthoodjjjklbggaaGreatDoor

namespace Go.Proofs.YthoodjjjklbggaaGreatDoor
open Go.RowKit Go.Sort
set_option maxRecDepth 100000

def idxL (n : Nat) : List Int := (List.range n).map fun (a : Nat) => (a : Int)
theorem idxL_len (n : Nat) : (idxL n).length = n := by simp [idxL]
theorem idxL_at {n a : Nat} (h : a < n) : (idxL n).getD a 0 = a := by simp [idxL, h]
theorem idxL_mem {n : Nat} {x : Int} (h : x ∈ idxL n) : ∃ a : Nat, a < n ∧ x = a := by
  unfold idxL at h
  rw [List.mem_map] at h
  obtain ⟨a, ha, e⟩ := h
  exact ⟨a, List.mem_range.1 ha, e.symm⟩
set_option maxHeartbeats 2000000 in
theorem indices_any (n : Nat) (hn : n ≤ 1000) (w : World) (h1 : 1 ≤ n) :
    Calls Tryz.prog 46 #[.int .i64 n] w fun e w' => e = .returned (.slice (some ⟨w.heap.size, 0, none⟩) n n) ∧ Own w' w.heap.size (.slice (some ⟨w.heap.size, 0, none⟩) n n) (idxL n) ∧ Below w.heap.size w w' := by
  obtain ⟨i0, hi, hz0, hz1, hz2⟩ := info_parts i64_info
  go_enter Tryz.func46, Tryz.ntmps46
  go_wp2_with (at_make; refine wpList_make_full _ rfl _ _ 23 rfl w.heap.size 3 i0 (.int .i64 0) 1 Tryz.underlying23 hi hz0 hz1 _ _ _ _ n rfl rfl rfl rfl (by rw [hz2]; omega) (by unfold maxLen; omega) (Nat.le_refl _) ?_; intro w1 hown hg1; have HB1 := Lib.hid ((Below.refl w.heap.size w).grown hg1 (Nat.le_refl _) (by simp)); have HOWN := Lib.hid hown; clear hown hg1)
  have HO1 : Hid (Own w1 w.heap.size (.slice (some ⟨w.heap.size, 0, none⟩) n n) (List.replicate n 0)) := by
    have ho := HOWN.out
    rw [ints_made'] at ho
    unfold Hid Own
    rw [List.length_replicate]
    exact ho
  clear HOWN
  go_loopw [9] (fun i wr => ∃ (k : Nat) (N : List Int), k ≤ n ∧ i = .int .i64 k ∧ N.length = n ∧ Own wr w.heap.size (.slice (some ⟨w.heap.size, 0, none⟩) n n) N ∧ Hid (∀ i, i < k → N.getD i 0 = (i : Int)) ∧ Below w.heap.size w wr) (fun i _ => n - (intOf i).toNat)
  case atStart => exact ⟨0, _, by omega, rfl, by simp, HO1.out, fun i hi => absurd hi (by omega), HB1.out⟩
  case round =>
    obtain ⟨k, N, hk, rfl, hNl, ho, HP, hb⟩ := hrel
    have HO := Lib.hid ho
    have HB := Lib.hid hb
    clear ho hb
    by_cases hlt : k < n
    · obtain ⟨hx, hf⟩ := HO.out.at1 hNl (by omega)
      have zk := hx k hlt
      have fk := hf k
      have HO3 := Lib.hid (HO.out.set_ hNl k (k : Int)).1
      have HB3 := Lib.hid (HB.out.setCell (p := ⟨w.heap.size, k, none⟩) (Nat.le_refl _) (.int .i64 k))
      clear hx hf
      go_wp2
      go_roundw
      case rel =>
        refine ⟨k + 1, N.set k k, by omega, by go_num, by simp [hNl], HO3.out, fun i hi => ?_, HB3.out⟩
        by_cases hik : i = k
        · subst hik; rw [getD_set_same _ (by omega)]
        · rw [getD_set_other _ (Ne.symm hik)]; exact HP.out i (by omega)
      case measure => simp [intOf]; omega
    · obtain rfl : n = k := by omega
      have HE : Hid (N = idxL n) := list_ext0 hNl (idxL_len n) fun i hi => by rw [HP.out i hi, idxL_at hi]
      go_wp2
      go_ret
      exact ⟨rfl, by rw [← HE.out]; exact HO.out, HB.out⟩
end Go.Proofs.YthoodjjjklbggaaGreatDoor

namespace Go.Proofs.YthoodjjjklbggaaGreatDoor
open Go.RowKit Go.Sort
set_option maxRecDepth 100000
def bsC (xs : List Int) (x y : Int) : Int := (scK xs y.toNat : Int) - scK xs x.toNat
def ordS (xs : List Int) : List Int := sortR (fun x y => decide (bsC xs x y < 0)) (idxL xs.length)
theorem ordS_len (xs : List Int) : (ordS xs).length = xs.length := by
  have := sortR_len (fun x y => decide (bsC xs x y < 0)) (idxL xs.length) (Nat.le_refl _)
  rw [List.take_length, idxL_len] at this
  exact this
theorem ins_mem (bef : Int → Int → Bool) (S : List Int) (x y : Int) (h : y = x ∨ y ∈ S) : y ∈ insR bef S x := by
  unfold insR
  rw [List.mem_append, List.mem_cons]
  rcases h with h | h
  · exact .inr (.inl h)
  · rw [← List.take_append_drop (posR bef x S S.length) S, List.mem_append] at h
    exact h.imp id .inr
theorem sort_mem (bef : Int → Int → Bool) (L : List Int) : ∀ i, i ≤ L.length → ∀ y, y ∈ L.take i → y ∈ sortR bef (L.take i) := by
  intro i
  induction i with
  | zero => intro _ y h; simp at h
  | succ i ih =>
    intro hi y h
    rw [sortR_succ bef L (by omega)]
    have e : L.take (i + 1) = L.take i ++ [L.getD i 0] := by
      rw [List.take_succ_eq_append_getElem (by omega), show L.getD i 0 = L[i] by simp [show i < L.length by omega]]
    rw [e, List.mem_append, List.mem_singleton] at h
    refine ins_mem _ _ _ _ ?_
    rcases h with h | h
    · exact .inr (ih (by omega) y h)
    · exact .inl h
theorem posR_after {bef : Int → Int → Bool} {x : Int} {S : List Int} : ∀ {k}, k ≤ S.length → ∀ j, posR bef x S k ≤ j → j < k → bef x (S.getD j 0) = true := by
  intro k
  induction k with
  | zero => intro _ j _ h; omega
  | succ k ih =>
    intro hk j hj hjk
    rcases q : bef x (S.getD k 0) with _ | _
    · rw [posR_stop q] at hj; omega
    · rw [posR_go q] at hj
      by_cases e : j = k
      · subst e; exact q
      · exact ih (by omega) j hj (by omega)
theorem posR_before {bef : Int → Int → Bool} {x : Int} {S : List Int} : ∀ {k}, k ≤ S.length → 0 < posR bef x S k → bef x (S.getD (posR bef x S k - 1) 0) = false := by
  intro k
  induction k with
  | zero => intro _ h; simp [posR] at h
  | succ k ih =>
    intro hk h
    rcases q : bef x (S.getD k 0) with _ | _
    · rw [posR_stop q, Nat.add_sub_cancel]; exact q
    · rw [posR_go q] at h ⊢; exact ih (by omega) h
/-- the greater keys stand first -/
theorem ins_sorted {key : Int → Int} {bef : Int → Int → Bool} (hb : ∀ x y, bef x y = decide (key y < key x)) {S : List Int} {x : Int} (hS : S.Pairwise fun a b => key b ≤ key a) : (insR bef S x).Pairwise fun a b => key b ≤ key a := by
  unfold insR
  have hle := posR_le bef x S S.length
  have hS2 := hS
  rw [← List.take_append_drop (posR bef x S S.length) S, List.pairwise_append] at hS2
  have h1 : ∀ y ∈ S.drop (posR bef x S S.length), key y ≤ key x := fun y hy => by
    obtain ⟨j, hj, rfl⟩ := List.getElem_of_mem hy
    rw [List.length_drop] at hj
    have := posR_after (bef := bef) (x := x) (Nat.le_refl S.length) (posR bef x S S.length + j) (by omega) (by omega)
    rw [hb] at this
    have h2 := of_decide_eq_true this
    rw [List.getElem_drop]
    rw [show S.getD (posR bef x S S.length + j) 0 = S[posR bef x S S.length + j] by simp [show posR bef x S S.length + j < S.length by omega]] at h2
    omega
  have h2 : ∀ y ∈ S.take (posR bef x S S.length), key x ≤ key y := fun y hy => by
    rcases Nat.eq_zero_or_pos (posR bef x S S.length) with h0 | h0
    · rw [h0] at hy; simp at hy
    · have hp := posR_before (Nat.le_refl S.length) h0
      rw [hb] at hp
      have h3 := of_decide_eq_false hp
      have hlt : posR bef x S S.length - 1 < S.length := by omega
      rw [show S.getD (posR bef x S S.length - 1) 0 = S[posR bef x S S.length - 1] by simp [hlt]] at h3
      obtain ⟨j, hj, rfl⟩ := List.getElem_of_mem hy
      rw [List.length_take] at hj
      rw [List.getElem_take]
      by_cases e : j = posR bef x S S.length - 1
      · have : S[j]'(by omega) = S[posR bef x S S.length - 1] := by simp [e]
        rw [this]; omega
      · have := List.pairwise_iff_getElem.1 hS j (posR bef x S S.length - 1) (by omega) hlt (by omega)
        omega
  rw [List.pairwise_append, List.pairwise_cons]
  exact ⟨hS2.1, ⟨h1, hS2.2.1⟩, fun a ha b hb => by
    rw [List.mem_cons] at hb
    rcases hb with rfl | hb
    · exact h2 a ha
    · exact hS2.2.2 a ha b hb⟩
theorem sort_sorted {key : Int → Int} {bef : Int → Int → Bool} (hb : ∀ x y, bef x y = decide (key y < key x)) (L : List Int) : ∀ i, i ≤ L.length → (sortR bef (L.take i)).Pairwise fun a b => key b ≤ key a := by
  intro i
  induction i with
  | zero => intro _; simp [sortR]
  | succ i ih => intro hi; rw [sortR_succ bef L (by omega)]; exact ins_sorted hb (ih (by omega))
theorem ordS_facts (xs : List Int) : (∀ i, i < xs.length → ∃ a : Nat, a < xs.length ∧ (ordS xs).getD i 0 = a) ∧ (∀ a, a < xs.length → ∃ i, i < xs.length ∧ (ordS xs).getD i 0 = (a : Int)) ∧
    (∀ i j a b : Nat, i < j → j < xs.length → (ordS xs).getD i 0 = (a : Int) → (ordS xs).getD j 0 = (b : Int) → scK xs b ≤ scK xs a) := by
  have hl := ordS_len xs
  have hm : ∀ y, y ∈ idxL xs.length → y ∈ ordS xs := fun y hy => by
    have := sort_mem (fun x y => decide (bsC xs x y < 0)) (idxL xs.length) (idxL xs.length).length (Nat.le_refl _) y (by rwa [List.take_length])
    rwa [List.take_length] at this
  have hs : (ordS xs).Pairwise fun a b => (scK xs b.toNat : Int) ≤ scK xs a.toNat := by
    have := sort_sorted (key := fun a => (scK xs a.toNat : Int)) (bef := fun x y => decide (bsC xs x y < 0)) (fun x y => by rw [decide_eq_decide]; unfold bsC; omega) (idxL xs.length) (idxL xs.length).length (Nat.le_refl _)
    rwa [List.take_length] at this
  refine ⟨fun i hi => ?_, fun a ha => ?_, fun i j a b hij hj hia hjb => ?_⟩
  · have h1 : (ordS xs).getD i 0 ∈ ordS xs := getD_memI (by omega)
    have h2 : (ordS xs).getD i 0 ∈ idxL xs.length := mem_sortR (i := (idxL xs.length).length) (Nat.le_refl _) (by rw [List.take_length]; exact h1)
    exact idxL_mem h2
  · have h1 := hm (a : Int) (by unfold idxL; rw [List.mem_map]; exact ⟨a, List.mem_range.2 ha, rfl⟩)
    obtain ⟨i, hi, he⟩ := List.getElem_of_mem h1
    exact ⟨i, by omega, by simp [hi, he]⟩
  · have := List.pairwise_iff_getElem.1 hs i j (by omega) (by omega) hij
    rw [show (ordS xs)[i] = (a : Int) by rw [← hia]; simp [show i < (ordS xs).length by omega], show (ordS xs)[j] = (b : Int) by rw [← hjb]; simp [show j < (ordS xs).length by omega], Int.toNat_natCast, Int.toNat_natCast] at this
    omega
theorem scK_le (xs : List Int) (a : Nat) (h : winsN xs a < 256) : scK xs a ≤ 8 := by unfold scK; rw [pop_mem h]; exact memN_len _ _
end Go.Proofs.YthoodjjjklbggaaGreatDoor

namespace Go.Proofs.YthoodjjjklbggaaGreatDoor
open Go.RowKit Go.Sort
set_option maxRecDepth 100000
def revM (L : List Int) (n i : Nat) : List Int := (List.range n).map fun k => if k < i ∨ n - i ≤ k then L.getD (n - 1 - k) 0 else L.getD k 0
theorem revM_len (L : List Int) (n i : Nat) : (revM L n i).length = n := by simp [revM]
theorem revM_at {L : List Int} {n i k : Nat} (h : k < n) : (revM L n i).getD k 0 = if k < i ∨ n - i ≤ k then L.getD (n - 1 - k) 0 else L.getD k 0 := by simp [revM, h]
theorem revM_zero {L : List Int} {n : Nat} (h : L.length = n) : revM L n 0 = L := list_ext0 (revM_len _ _ _) h fun k hk => by rw [revM_at hk, if_neg (by omega)]
theorem revM_end {L : List Int} {n i : Nat} (h : L.length = n) (hi : n ≤ i + i + 1) (hi2 : i + i ≤ n) : revM L n i = L.reverse := list_ext0 (n := n) (revM_len _ _ _) (by rw [List.length_reverse]; exact h) fun k hk => by
  have e : L.reverse.getD k 0 = L.getD (n - 1 - k) 0 := by
    rw [List.getD_eq_getElem?_getD, List.getElem?_reverse (by omega), List.getD_eq_getElem?_getD, h]
  rw [revM_at hk, e]
  split
  · rfl
  · rw [show n - 1 - k = k by omega]
theorem revM_step {L : List Int} {n i j : Nat} (hj : j + i + 1 = n) (hij : i < j) : ((revM L n i).set i (L.getD j 0)).set j (L.getD i 0) = revM L n (i + 1) := list_ext0 (n := n) (by rw [List.length_set, List.length_set, revM_len]) (revM_len _ _ _) fun k hk => by
  by_cases e1 : k = j
  · subst e1
    rw [getD_set_same _ (by rw [List.length_set, revM_len]; exact hk), revM_at hk, if_pos (by omega), show n - 1 - k = i by omega]
  · rw [getD_set_other _ (Ne.symm e1)]
    by_cases e2 : k = i
    · subst e2
      rw [getD_set_same _ (by rw [revM_len]; exact hk), revM_at hk, if_pos (by omega), show n - 1 - k = j by omega]
    · rw [getD_set_other _ (Ne.symm e2), revM_at hk, revM_at hk]
      by_cases h : k < i ∨ n - i ≤ k
      · rw [if_pos h, if_pos (by omega)]
      · rw [if_neg h, if_neg (by omega)]
end Go.Proofs.YthoodjjjklbggaaGreatDoor

namespace Go.Proofs.YthoodjjjklbggaaGreatDoor
open Go.RowKit Go.Sort
set_option maxRecDepth 100000
theorem bit_test0 (S d : Nat) : (bits BinOp.and IntKind.i64 ((S : Int) / 2 ^ d) 1 == 0) = !S.testBit d := by
  have h := bit_test S d
  rw [i64_and_one] at h ⊢
  have h2 : ((S : Int) / 2 ^ d) % 2 = 0 ∨ ((S : Int) / 2 ^ d) % 2 = 1 := by omega
  rw [← h]
  rcases h2 with h2 | h2 <;> rw [h2] <;> rfl
theorem full_all {n S : Nat} (hS : S < 2 ^ n) (h : ∀ a, a < n → S.testBit a = true) : S = 2 ^ n - 1 := Nat.eq_of_testBit_eq fun c => by
  rw [testBit_full]
  rcases Nat.lt_or_ge c n with hc | hc
  · rw [h c hc]; simp [hc]
  · rw [Nat.testBit_lt_two_pow (Nat.lt_of_lt_of_le hS (Nat.pow_le_pow_right (by decide) hc))]
    simp; omega
theorem cell_new1' (w : World) (x : Value) (t : TypeId) : (w.alloc (.cells #[x] t)).cell? ⟨w.heap.size, 0, none⟩ = some x := by simp
theorem clo_zero (xs : List Int) : clo xs 0 := fun b c h _ => by simp at h
theorem clo_full {s : Int} {xs : List Int} (hp : tourP s xs) : clo xs (2 ^ xs.length - 1) := fun b c h hc => by
  rw [testBit_full] at h ⊢
  have hb : b < xs.length := by simpa using h
  rcases Nat.lt_or_ge c xs.length with h1 | h1
  · simpa using h1
  · rw [wins_hi hp hb h1] at hc; cases hc
def partP (a : Nat) (x : Int) : Bool := x.toNat.testBit a
noncomputable def partI (s : Int) (xs : List Int) (a : Int) : Int := if (tourB s xs && inB a 0 (s - 1)) = true then findI (partP a.toNat) (nI (partsN xs (2 ^ xs.length - 1))) else -1
end Go.Proofs.YthoodjjjklbggaaGreatDoor

namespace Go.Proofs.YthoodjjjklbggaaGreatDoor
open Go.RowKit Go.Sort

noncomputable def cycB (s : Int) (xs ys : List Int) : Bool := decide (3 ≤ (ys.length : Int)) && (wayB s xs ys && bitI (xs.getD (ys.getD (ys.length - 1) 0).toNat 0) (ys.getD 0 0).toNat)
end Go.Proofs.YthoodjjjklbggaaGreatDoor

namespace Go.Proofs.YthoodjjjklbggaaGreatDoor
open Go.RowKit Go.Sort
set_option maxRecDepth 100000
/-- a list of players each of whom beats the next one -/
def okW (xs : List Int) (n : Nat) (l : List Nat) : Prop := l.Nodup ∧ (∀ x ∈ l, x < n) ∧ ∀ i, i + 1 < l.length → bt xs (l.getD i 0) (l.getD (i + 1) 0) = true
theorem getD_app_lt {l m : List Nat} {i : Nat} (h : i < l.length) : (l ++ m).getD i 0 = l.getD i 0 := by
  simp [List.getD_eq_getElem?_getD, List.getElem?_append_left h]
theorem getD_app_ge {l m : List Nat} {i : Nat} (h : l.length ≤ i) : (l ++ m).getD i 0 = m.getD (i - l.length) 0 := by
  simp [List.getD_eq_getElem?_getD, List.getElem?_append_right h]
theorem okW_snoc {xs : List Int} {n : Nat} {l : List Nat} {b : Nat} (h : okW xs n l) (hne : l ≠ []) (hb : b < n) (hn : b ∉ l) (hw : bt xs (lastN l) b = true) : okW xs n (l ++ [b]) := by
  obtain ⟨h1, h2, h3⟩ := h
  have h0 : 0 < l.length := List.length_pos_iff.2 hne
  refine ⟨List.nodup_append.2 ⟨h1, by simp, fun x hx y hy => ?_⟩, fun x hx => ?_, fun i hi => ?_⟩
  · simp at hy; subst hy; exact fun e => hn (e ▸ hx)
  · rcases List.mem_append.1 hx with h | h
    · exact h2 x h
    · simp at h; subst h; exact hb
  · rw [List.length_append, List.length_singleton] at hi
    by_cases e : i + 1 = l.length
    · rw [getD_app_lt (by omega), getD_app_ge (by omega), e, Nat.sub_self]
      have : lastN l = l.getD i 0 := by unfold lastN; rw [← e]; rfl
      rw [← this]; exact hw
    · rw [getD_app_lt (by omega), getD_app_lt (by omega)]
      exact h3 i (by omega)
theorem okW_take {xs : List Int} {n : Nat} {l m : List Nat} (h : okW xs n (l ++ m)) : okW xs n l := by
  obtain ⟨h1, h2, h3⟩ := h
  refine ⟨(List.nodup_append.1 h1).1, fun x hx => h2 x (List.mem_append.2 (.inl hx)), fun i hi => ?_⟩
  have := h3 i (by rw [List.length_append]; omega)
  rwa [getD_app_lt (by omega), getD_app_lt (by omega)] at this
theorem cand_mem {xs : List Int} {n : Nat} {way : List Nat} {b : Nat} : b ∈ cand xs n way ↔ b < n ∧ bt xs (lastN way) b = true ∧ b ∉ way := by
  unfold cand
  rw [List.mem_filter, mem_memN]
  simp
  constructor
  · rintro ⟨⟨h1, h2⟩, h3⟩; exact ⟨h1, h2, h3⟩
  · rintro ⟨h1, h2, h3⟩; exact ⟨⟨h1, h2⟩, h3⟩
theorem lastN_app {l : List Nat} {b : Nat} : lastN (l ++ [b]) = b := by simp [lastN]
/-- what the search finds is a way that begins so and is wanted -/
theorem dfs_sound {xs : List Int} {n : Nat} {want : List Nat → Bool} : ∀ {m : Nat} {way L : List Nat}, dfs xs n want m way = some L → okW xs n way → way ≠ [] → okW xs n L ∧ want L = true ∧ L.length = way.length + m ∧ ∃ suf, L = way ++ suf := by
  intro m
  induction m with
  | zero =>
    intro way L h hw hne
    rw [dfs] at h
    split at h
    · rename_i hwant
      injection h with h
      subst h
      exact ⟨hw, hwant, by omega, [], by simp⟩
    · cases h
  | succ m ih =>
    intro way L h hw hne
    rw [dfs] at h
    obtain ⟨b, hb, hb2⟩ := List.exists_of_findSome?_eq_some h
    obtain ⟨b1, b2, b3⟩ := cand_mem.1 hb
    obtain ⟨h1, h2, h3, suf, h4⟩ := ih hb2 (okW_snoc hw hne b1 b3 b2) (by simp)
    refine ⟨h1, h2, ?_, b :: suf, by rw [h4]; simp⟩
    rw [List.length_append, List.length_singleton] at h3
    omega
/-- if there is a way that begins so and is wanted, the search finds one -/
theorem dfs_complete {xs : List Int} {n : Nat} {want : List Nat → Bool} : ∀ {m : Nat} {way suf : List Nat}, okW xs n (way ++ suf) → way ≠ [] → want (way ++ suf) = true → suf.length = m → ∃ L, dfs xs n want m way = some L := by
  intro m
  induction m with
  | zero =>
    intro way suf _ _ hwant hl
    have : suf = [] := List.eq_nil_of_length_eq_zero hl
    subst this
    rw [List.append_nil] at hwant
    exact ⟨way, by rw [dfs, if_pos hwant]⟩
  | succ m ih =>
    intro way suf hw hne hwant hl
    obtain ⟨b, suf, rfl⟩ : ∃ b t, suf = b :: t := by
      cases suf with
      | nil => cases hl
      | cons b t => exact ⟨b, t, rfl⟩
    have e : way ++ b :: suf = (way ++ [b]) ++ suf := by simp
    rw [e] at hw hwant
    obtain ⟨L, hL⟩ := ih hw (by simp) hwant (by simpa using hl)
    have h0 : 0 < way.length := List.length_pos_iff.2 hne
    have hw2 := okW_take hw
    have hb : b ∈ cand xs n way := by
      refine cand_mem.2 ⟨hw2.2.1 b (by simp), ?_, fun h => ?_⟩
      · have := hw2.2.2 (way.length - 1) (by rw [List.length_append, List.length_singleton]; omega)
        rw [getD_app_lt (by omega), show way.length - 1 + 1 = way.length by omega, getD_app_ge (Nat.le_refl _), Nat.sub_self] at this
        exact this
      · exact (List.nodup_append.1 hw2.1).2.2 b h b (by simp) rfl
    rw [dfs]
    rcases q : (cand xs n way).findSome? fun b => dfs xs n want m (way ++ [b]) with _ | L'
    · rw [List.findSome?_eq_none_iff] at q
      rw [q b hb] at hL; cases hL
    · exact ⟨L', rfl⟩
section
variable {n : Nat} {xs : List Int}
theorem okW_one {a : Nat} (ha : a < n) : okW xs n [a] := ⟨by simp, fun x hx => by simp at hx; subst hx; exact ha, fun i hi => by simp at hi⟩
/-- such a list is a way for the program -/
theorem okW_way (hp : tourP n xs) {l : List Nat} (h : okW xs n l) : wayB n xs (nI l) = true := by
  obtain ⟨h1, h2, h3⟩ := h
  unfold wayB
  rw [tourB_true.2 hp, Bool.true_and, nI_len, wayK_true]
  intro i hi
  have hm : ∀ k, k < l.length → l.getD k 0 < n := fun k hk => h2 _ (by rw [getD_nat hk]; exact List.getElem_mem hk)
  unfold wayAt
  rw [nI_getD hi, show inB ((l.getD i 0 : Nat) : Int) 0 ((n : Int) - 1) = true from inB_true.2 ⟨by omega, by have := hm i hi; omega⟩, Bool.true_and, Bool.and_eq_true]
  constructor
  · rw [Bool.not_eq_true']
    unfold containsI
    rw [decide_eq_false_iff_not]
    intro hc
    obtain ⟨k, hk, e⟩ := List.getElem_of_mem hc
    rw [List.length_take, nI_len] at hk
    rw [List.getElem_take] at e
    have e2 : (l[k]'(by omega) : Nat) = l[i] := by
      rw [getD_nat hi] at e
      unfold nI at e
      rw [List.getElem_map] at e
      omega
    have := (List.getElem_inj h1).1 e2
    omega
  · rw [Bool.or_eq_true]
    rcases Nat.eq_zero_or_pos i with h0 | h0
    · exact .inl (by subst h0; rfl)
    · right
      have hk : i - 1 < l.length := by omega
      have := h3 (i - 1) (by omega)
      rw [show i - 1 + 1 = i by omega] at this
      rw [nI_getD hk, Int.toNat_natCast, Int.toNat_natCast]
      obtain ⟨S, e, -⟩ := (tour_bits hp).1 (l.getD (i - 1) 0) (by rw [tour_len hp]; exact hm _ hk)
      rw [bitI_bt e]
      exact this
/-- the strong tours: everybody reaches all -/
def strP (xs : List Int) (n : Nat) : Prop := ∀ a, a < n → reachN xs a = 2 ^ n - 1
theorem strong_parts (hp : tourP n xs) : (partsN xs (2 ^ n - 1)).length = 1 ↔ strP xs n := by
  have hln := tour_len hp
  have h1 : 1 ≤ n := by have := hp.1; omega
  have hfull : 2 ^ n - 1 < 2 ^ xs.length := by rw [hln]; have := Nat.one_le_two_pow (n := n); omega
  have hclo : clo xs (2 ^ n - 1) := by have := clo_full hp; rwa [hln] at this
  have h0 : 2 ^ n - 1 ≠ 0 := by have := Nat.pow_le_pow_right (n := 2) (by decide) h1; omega
  have hst := partsN_step hp hfull hclo h0
  rw [hln] at hst
  constructor
  · intro h
    rw [hst, List.length_cons] at h
    have h2 : partsN xs (less (2 ^ n - 1) (topF xs n (2 ^ n - 1))) = [] := List.eq_nil_of_length_eq_zero (by omega)
    have hlt : less (2 ^ n - 1) (topF xs n (2 ^ n - 1)) < 2 ^ xs.length := less_lt hfull
    have hz : less (2 ^ n - 1) (topF xs n (2 ^ n - 1)) = 0 := by
      refine Classical.byContradiction fun hne => ?_
      have := rest_clo hp hfull hclo
      rw [hln] at this
      rw [partsN_step hp hlt this hne] at h2
      cases h2
    intro a ha
    have hb := congrArg (fun z => z.testBit a) hz
    simp only [testBit_less, Nat.zero_testBit, testBit_full, decide_eq_true ha, Bool.true_and, Bool.not_eq_eq_eq_not, Bool.not_false] at hb
    rw [testBit_topF, testBit_full, decide_eq_true ha, Bool.true_and, Bool.true_and, beq_iff_eq] at hb
    exact hb
  · intro h
    have htop : topF xs n (2 ^ n - 1) = 2 ^ n - 1 := Nat.eq_of_testBit_eq fun a => by
      rw [testBit_topF, testBit_full]
      by_cases ha : a < n
      · rw [h a ha]; simp [ha]
      · simp [ha]
    have hz : less (2 ^ n - 1) (2 ^ n - 1) = 0 := Nat.eq_of_testBit_eq fun a => by rw [testBit_less, Nat.zero_testBit]; cases (2 ^ n - 1).testBit a <;> rfl
    rw [hst, htop, hz, partsN_zero]; rfl
/-- a tour with a set that beats all others is not strong -/
theorem cut_not (hp : tourP n xs) {f : Nat → Bool} {a b : Nat} (ha : a < n) (hb : b < n) (hfa : f a = true) (hfb : f b = false) (hc : ∀ x y, x < n → y < n → f x = true → f y = false → bt xs x y = true) : ¬ strP xs n := by
  have hln := tour_len hp
  intro h
  obtain ⟨S, hS⟩ : ∃ S, S = setOf (fun x => !f x) n := ⟨_, rfl⟩
  have hSb : ∀ c, S.testBit c = true ↔ c < n ∧ f c = false := fun c => by rw [hS, testBit_setOf]; simp
  have hclo : clo xs S := fun x y hx hy => by
    obtain ⟨hx1, hx2⟩ := (hSb x).1 hx
    have hyn := bt_hi hp hx1 hy
    refine (hSb y).2 ⟨hyn, ?_⟩
    rcases q : f y with _ | _
    · rfl
    · have h1 := hc y x hyn hx1 q hx2
      have h2 := (bt_asym hp hx1 hyn hy).1
      rw [h1] at h2; cases h2
  have hr := reach_facts hp (a := b) (by rw [hln]; exact hb)
  have := hr.2.2.1 S hclo ((hSb b).2 ⟨hb, hfb⟩) a (by rw [h b hb, testBit_full]; simpa using ha)
  rw [((hSb a).1 this).2] at hfa
  cases hfa
/-- a backwards search that succeeds: a way -/
theorem cyF_way {T a : Nat} {f : Nat → Nat} (hf1 : ∀ i, i < n → f i < n) (hf2 : ∀ i k, i < n → k < n → f i = f k → i = k) (hft : ∀ i k, i < n → k < n → bt xs (f i) (f k) = bN T i k) (ha : a < n) : ∀ m (way : List Nat), cyF T n a m way = true → way ≠ [] → (∀ x ∈ way, x < n) → okW xs n (way.reverse.map f) →
    ∃ suf : List Nat, suf.length = m ∧ okW xs n ((way.reverse ++ suf).map f) ∧ bt xs (lastN ((way.reverse ++ suf).map f)) (f a) = true := by
  intro m
  induction m with
  | zero =>
    intro way h hne hx hok
    refine ⟨[], rfl, by simpa using hok, ?_⟩
    obtain ⟨x, t, rfl⟩ : ∃ x t, way = x :: t := by
      cases way with
      | nil => exact absurd rfl hne
      | cons x t => exact ⟨x, t, rfl⟩
    have e : lastN (((x :: t).reverse ++ []).map f) = f x := by
      rw [List.append_nil, List.reverse_cons, List.map_append, List.map_cons, List.map_nil, lastN_app]
    rw [e, hft x a (hx x (by simp)) ha]
    exact h
  | succ m ih =>
    intro way h hne hx hok
    obtain ⟨x, t, rfl⟩ : ∃ x t, way = x :: t := by
      cases way with
      | nil => exact absurd rfl hne
      | cons x t => exact ⟨x, t, rfl⟩
    rw [cyF, List.any_eq_true] at h
    obtain ⟨b, hb, h⟩ := h
    rw [Bool.and_eq_true, Bool.and_eq_true, Bool.not_eq_true'] at h
    obtain ⟨h1, h2, h3⟩ := h
    have hbn := List.mem_range.1 hb
    have hxn := hx x (by simp)
    have hbm : b ∉ x :: t := fun hm => by
      have : (x :: t).contains b = true := by simpa using hm
      rw [this] at h2; cases h2
    have hok2 : okW xs n ((b :: x :: t).reverse.map f) := by
      rw [List.reverse_cons, List.map_append, List.map_cons, List.map_nil]
      refine okW_snoc hok (by simp) (hf1 b hbn) (fun hm => ?_) ?_
      · obtain ⟨y, hy, e⟩ := List.mem_map.1 hm
        rw [List.mem_reverse] at hy
        exact hbm (hf2 y b (hx y hy) hbn e ▸ hy)
      · have e : lastN ((x :: t).reverse.map f) = f x := by rw [List.reverse_cons, List.map_append, List.map_cons, List.map_nil, lastN_app]
        rw [e, hft x b hxn hbn]
        exact h1
    obtain ⟨suf, s1, s2, s3⟩ := ih (b :: x :: t) h3 (by simp) (fun y hy => by
      rcases List.mem_cons.1 hy with h | h
      · subst h; exact hbn
      · exact hx y h) hok2
    refine ⟨b :: suf, by simp [s1], ?_, ?_⟩
    · rw [List.reverse_cons, List.append_assoc] at s2; exact s2
    · rw [List.reverse_cons, List.append_assoc] at s3; exact s3
/-- the kind of a tour: its results under other names -/
theorem kind_f (hp : tourP n xs) (h7 : n ≤ 7) : ∃ j, j < rc n ∧ ∃ f : Nat → Nat, (∀ i, i < n → f i < n) ∧ (∀ i k, i < n → k < n → f i = f k → i = k) ∧ (∀ b, b < n → ∃ k, k < n ∧ f k = b) ∧ ∀ i k, i < n → k < n → bt xs (f i) (f k) = bN (rp n j) i k := by
  have hln := tour_len hp
  obtain ⟨hs, hd, hx⟩ := tour_bits hp
  rw [hln] at hs hd hx
  obtain ⟨j, hj, q, hq, hqf⟩ := kinds n h7 (bt xs) ⟨hd, hx⟩
  obtain ⟨o1, o2, o3⟩ := ord_at hq
  exact ⟨j, hj, fun i => q.getD i 0, o1, o2, o3, hqf⟩
theorem ct_not (hp : tourP n xs) {T S : Nat} {f : Nat → Nat} (hf1 : ∀ i, i < n → f i < n) (hf3 : ∀ b, b < n → ∃ k, k < n ∧ f k = b) (hf2 : ∀ i k, i < n → k < n → f i = f k → i = k) (hft : ∀ i k, i < n → k < n → bt xs (f i) (f k) = bN T i k) (hc : ctOk n T S = true) : ¬ strP xs n := by
  unfold ctOk at hc
  rw [Bool.and_eq_true, Bool.and_eq_true, List.all_eq_true] at hc
  obtain ⟨⟨c1, c2⟩, c3⟩ := hc
  have c1 : 0 < S := by simpa [Nat.blt_eq] using c1
  have c2 : S < 2 ^ n - 1 := by simpa [Nat.blt_eq] using c2
  obtain ⟨i, hi⟩ := Nat.exists_testBit_of_ne_zero (show S ≠ 0 by omega)
  have hin : i < n := by
    rcases Nat.lt_or_ge i n with h | h
    · exact h
    · rw [Nat.testBit_lt_two_pow (Nat.lt_of_lt_of_le (show S < 2 ^ n by omega) (Nat.pow_le_pow_right (by decide) h))] at hi; cases hi
  obtain ⟨k, hk, hkn⟩ : ∃ k, k < n ∧ S.testBit k = false := by
    refine Classical.byContradiction fun h => ?_
    have : S = 2 ^ n - 1 := full_all (by omega) fun a ha => by
      rcases q : S.testBit a with _ | _
      · exact absurd ⟨a, ha, q⟩ h
      · rfl
    omega
  let g : Nat → Bool := fun y => (List.range n).any fun i => S.testBit i && decide (f i = y)
  have hg : ∀ i, i < n → g (f i) = S.testBit i := fun i hi => by
    rw [Bool.eq_iff_iff]
    show ((List.range n).any fun k => S.testBit k && decide (f k = f i)) = true ↔ _
    rw [List.any_eq_true]
    constructor
    · rintro ⟨k, hk, h⟩
      rw [Bool.and_eq_true, decide_eq_true_eq] at h
      rw [← hf2 k i (List.mem_range.1 hk) hi h.2]; exact h.1
    · intro h
      exact ⟨i, List.mem_range.2 hi, by rw [h]; simp⟩
  refine cut_not hp (f := g) (hf1 i hin) (hf1 k hk) (by rw [hg i hin]; exact hi) (by rw [hg k hk]; exact hkn) fun x y hx hy h1 h2 => ?_
  obtain ⟨p, hp1, rfl⟩ := hf3 x hx
  obtain ⟨r, hr1, rfl⟩ := hf3 y hy
  rw [hg p hp1] at h1
  rw [hg r hr1] at h2
  have := List.all_eq_true.1 (c3 p (List.mem_range.2 hp1)) r (List.mem_range.2 hr1)
  rw [h1, h2] at this
  rw [hft p r hp1 hr1]
  simpa using this
/-- strong tours have cycles of every length through every player -/
theorem cyc_ex (hp : tourP n xs) (h6 : n ≤ 6) (hs : strP xs n) {a k : Nat} (ha : a < n) (hk3 : 3 ≤ k) (hkn : k ≤ n) : ∃ suf : List Nat, (a :: suf).length = k ∧ okW xs n (a :: suf) ∧ bt xs (lastN (a :: suf)) a = true := by
  obtain ⟨j, hj, f, f1, f2, f3, f4⟩ := kind_f hp (by omega)
  have hall := List.all_eq_true.1 (cyc_all n (by omega)) j (List.mem_range.2 hj)
  rw [Bool.or_eq_true] at hall
  rcases hall with h | h
  · exact absurd hs (ct_not hp f1 f3 f2 f4 h)
  · obtain ⟨i, hi, rfl⟩ := f3 a ha
    have h2 := List.all_eq_true.1 (List.all_eq_true.1 h i (List.mem_range.2 hi)) (k - 3) (List.mem_range.2 (by omega))
    rw [show k - 3 + 2 = k - 1 by omega] at h2
    obtain ⟨suf, s1, s2, s3⟩ := cyF_way f1 f2 f4 hi (k - 1) [i] h2 (by simp) (fun x hx => by simp at hx; subst hx; exact hi) (okW_one (f1 i hi))
    refine ⟨suf.map f, by simp [s1]; omega, by simpa using s2, by simpa using s3⟩
/-- strong tours have a cycle through all players -/
theorem ham_ex (hp : tourP n xs) (h3 : 3 ≤ n) (h7 : n ≤ 7) (hs : strP xs n) : ∃ l : List Nat, l.length = n ∧ okW xs n l ∧ bt xs (lastN l) (l.getD 0 0) = true := by
  obtain ⟨j, hj, f, f1, f2, f3, f4⟩ := kind_f hp h7
  have hall := List.all_eq_true.1 (ham_all n (by omega) h3) j (List.mem_range.2 hj)
  rw [Bool.or_eq_true] at hall
  rcases hall with h | h
  · exact absurd hs (ct_not hp f1 f3 f2 f4 h)
  · obtain ⟨suf, s1, s2, s3⟩ := cyF_way f1 f2 f4 (show 0 < n by omega) (n - 1) [0] h (by simp) (fun x hx => by simp at hx; subst hx; omega) (okW_one (f1 0 (by omega)))
    refine ⟨f 0 :: suf.map f, by simp [s1]; omega, by simpa using s2, by simpa using s3⟩
/-- CycleThrough's answers -/
theorem cyc_law (hp : tourP n xs) (h6 : n ≤ 6) {a k : Nat} (ha : a < n) (hk3 : 3 ≤ k) (hkn : k ≤ n) :
    (strP xs n → (cycO n xs a k).isSome = true) ∧ ((cycO n xs a k).isSome = true → cycB n xs (cycL n xs a k) = true ∧ (cycL n xs a k).length = k ∧ (cycL n xs a k).getD 0 0 = a) := by
  have hln := tour_len hp
  have hok : cycOk n xs a k = true := by
    unfold cycOk
    rw [tourB_true.2 hp, show inB (a : Int) 0 ((n : Int) - 1) = true from inB_true.2 ⟨by omega, by omega⟩, show inB (k : Int) 3 (n : Int) = true from inB_true.2 ⟨by omega, by omega⟩]; rfl
  have hO : cycO n xs a k = dfs xs n (cwA xs a) (k - 1) [a] := by unfold cycO; rw [if_pos hok, hln]; rfl
  constructor
  · intro hs
    obtain ⟨suf, s1, s2, s3⟩ := cyc_ex hp h6 hs ha hk3 hkn
    obtain ⟨L, hL⟩ := dfs_complete (want := cwA xs a) (m := k - 1) (way := [a]) (suf := suf) s2 (by simp) s3 (by simp at s1; omega)
    rw [hO, hL]; rfl
  · intro h
    unfold cycL
    rw [hO] at h ⊢
    rcases q : dfs xs n (cwA xs a) (k - 1) [a] with _ | L
    · rw [q] at h; cases h
    · obtain ⟨h1, h2, h3, suf, h4⟩ := dfs_sound q (okW_one ha) (by simp)
      rw [List.length_singleton] at h3
      have h0 : L.getD 0 0 = a := by rw [h4]; rfl
      have hlt : lastN L < n := by unfold lastN; exact h1.2.1 _ (by rw [getD_nat (by omega)]; exact List.getElem_mem _)
      refine ⟨?_, by rw [Option.getD_some, nI_len]; omega, by rw [Option.getD_some, nI_getD (by omega), h0]⟩
      unfold cycB
      rw [Option.getD_some, okW_way hp h1, nI_len, decide_eq_true (show (3 : Int) ≤ (L.length : Int) by omega), Bool.true_and, Bool.true_and, nI_getD (by omega), nI_getD (by omega), h0, Int.toNat_natCast, Int.toNat_natCast]
      obtain ⟨S, e, -⟩ := (tour_bits hp).1 (lastN L) (by rw [hln]; exact hlt)
      have : bitI (xs.getD (lastN L) 0) a = bt xs (lastN L) a := bitI_bt e
      unfold lastN at this
      rw [this]
      exact h2
/-- WayBetween's answers -/
theorem wb_law (hp : tourP n xs) {a b : Nat} (ha : a < n) (hb : b < n) :
    (wbO n xs a b).isSome = (reachN xs a).testBit b ∧ ((wbO n xs a b).isSome = true → wayB n xs (wbL n xs a b) = true ∧ 1 ≤ (wbL n xs a b).length ∧ (wbL n xs a b).length ≤ 8 ∧ (wbL n xs a b).getD 0 0 = a ∧ (wbL n xs a b).getD ((wbL n xs a b).length - 1) 0 = b) := by
  have hln := tour_len hp
  have h8 : n ≤ 8 := by have := hp.1; omega
  have hok : wbOk n xs a b = true := by
    unfold wbOk
    rw [tourB_true.2 hp, show inB (a : Int) 0 ((n : Int) - 1) = true from inB_true.2 ⟨by omega, by omega⟩, show inB (b : Int) 0 ((n : Int) - 1) = true from inB_true.2 ⟨by omega, by omega⟩]; rfl
  have hO : wbO n xs a b = if lv xs n b n a < 0 then none else some (a :: gw xs n b (lv xs n b n a).toNat a) := by unfold wbO; rw [if_pos hok, hln]; rfl
  have hr := reach_facts hp (a := a) (by rw [hln]; exact ha)
  rcases Int.lt_or_le (lv xs n b n a) 0 with hneg | hpos
  · rw [if_pos hneg] at hO
    rw [hO]
    refine ⟨?_, fun h => by cases h⟩
    rcases q : (reachN xs a).testBit b with _ | _
    · rfl
    · exfalso
      obtain ⟨S, hS⟩ : ∃ S, S = setOf (fun x => decide (lv xs n b n x < 0)) n := ⟨_, rfl⟩
      have hSb : ∀ c, S.testBit c = true ↔ c < n ∧ lv xs n b n c < 0 := fun c => by rw [hS, testBit_setOf]; simp
      have hclo : clo xs S := fun x y hx hy => by
        obtain ⟨hx1, hx2⟩ := (hSb x).1 hx
        have hyn := bt_hi hp hx1 hy
        refine (hSb y).2 ⟨hyn, ?_⟩
        refine Int.not_le.1 fun h => ?_
        obtain ⟨d, hd⟩ := Int.eq_ofNat_of_zero_le h
        have := (lv_step (a := x) (mem_memN.2 ⟨hyn, hy⟩) hd (lv_top hyn hd)).1
        omega
      have := hr.2.2.1 S hclo ((hSb a).2 ⟨ha, hneg⟩) b q
      have := ((hSb b).1 this).2
      rw [lv_b] at this
      omega
  · rw [if_neg (by omega)] at hO
    obtain ⟨d, hd⟩ := Int.eq_ofNat_of_zero_le hpos
    have hdn := lv_top ha hd
    have hdf := dfs_gw d [a] hdn (by simp) hd (fun x hx => by simp at hx; subst hx; omega)
    obtain ⟨h1, h2, h3, suf, h4⟩ := dfs_sound hdf (okW_one ha) (by simp)
    have eL : [a] ++ gw xs n b d (lastN [a]) = a :: gw xs n b d a := rfl
    rw [eL] at h1 h2 h3
    have hL : wbL n xs a b = nI (a :: gw xs n b d a) := by unfold wbL; rw [hO, hd]; rfl
    have hlast : lastN (a :: gw xs n b d a) = b := by unfold wB at h2; simpa using h2
    refine ⟨?_, fun _ => ?_⟩
    · rw [hO]
      have key : ∀ k, k < (a :: gw xs n b d a).length → (reachN xs a).testBit ((a :: gw xs n b d a).getD k 0) = true := by
        intro k
        induction k with
        | zero => intro _; exact hr.1
        | succ k ih =>
          intro hk
          exact hr.2.1 _ _ (ih (by omega)) (h1.2.2 k hk)
      have := key ((a :: gw xs n b d a).length - 1) (by simp)
      rw [show (a :: gw xs n b d a).getD ((a :: gw xs n b d a).length - 1) 0 = b from hlast] at this
      rw [this]; rfl
    · rw [hL]
      refine ⟨okW_way hp h1, by rw [nI_len, h3]; simp, by rw [nI_len, h3]; simp; omega, by rw [nI_getD (by simp)]; rfl, ?_⟩
      rw [nI_len, nI_getD (by simp)]
      rw [show (a :: gw xs n b d a).getD ((a :: gw xs n b d a).length - 1) 0 = b from hlast]
/-- how far the law's round over the parts has come -/
def PtI (n : Nat) (xs : List Int) (i all : Nat) : Prop :=
  ∃ S pre, partsN xs (2 ^ n - 1) = pre ++ partsN xs S ∧ pre.length = i ∧ S < 2 ^ n ∧ clo xs S ∧ all = less (2 ^ n - 1) S ∧ ∀ T ∈ pre, ∀ c, S.testBit c = true → T.testBit c = false
theorem pt_start (hp : tourP n xs) : PtI n xs 0 0 :=
  ⟨2 ^ n - 1, [], rfl, rfl, by have := Nat.one_le_two_pow (n := n); omega, by have := clo_full hp; rwa [tour_len hp] at this, (Nat.eq_of_testBit_eq fun a => by rw [testBit_less, Nat.zero_testBit]; cases (2 ^ n - 1).testBit a <;> rfl), fun T h => by cases h⟩
theorem pt_end (hp : tourP n xs) {all : Nat} (h : PtI n xs (partsN xs (2 ^ n - 1)).length all) : all = 2 ^ n - 1 := by
  obtain ⟨S, pre, e, hl, hS, hc, hall, -⟩ := h
  have hz : S = 0 := by
    refine Classical.byContradiction fun h0 => ?_
    rw [partsN_step hp (by rw [tour_len hp]; exact hS) hc h0] at e
    have := congrArg List.length e
    rw [List.length_append, List.length_cons] at this
    omega
  rw [hall, hz]
  exact Nat.eq_of_testBit_eq fun a => by rw [testBit_less, Nat.zero_testBit]; simp
theorem pt_all (_hp : tourP n xs) {i all : Nat} (h : PtI n xs i all) : all < 2 ^ n := by
  obtain ⟨S, pre, -, -, -, -, hall, -⟩ := h
  rw [hall]
  exact less_lt (by have := Nat.one_le_two_pow (n := n); omega)
theorem pt_step (hp : tourP n xs) {i all : Nat} (hi : i < (partsN xs (2 ^ n - 1)).length) (h : PtI n xs i all) :
    ∃ T, (partsN xs (2 ^ n - 1)).getD i 0 = T ∧ 1 ≤ T ∧ T < 2 ^ n ∧ all &&& T = 0 ∧ PtI n xs (i + 1) (all ||| T) ∧
      ∀ a, a < n → T.testBit a = true → partI n xs a = i ∧ reachN xs a &&& (all ||| T) = T ∧ ∀ b, b < n → (all ||| T).testBit b = false → bt xs a b = true := by
  have hln := tour_len hp
  obtain ⟨S, pre, e, hl, hS, hc, hall, hpre⟩ := h
  have h0 : S ≠ 0 := fun hz => by
    rw [hz, partsN_zero] at e
    have := congrArg List.length e
    rw [List.append_nil] at this
    omega
  have hst := partsN_step hp (by rw [hln]; exact hS) hc h0
  have hrc := rest_clo hp (by rw [hln]; exact hS) hc
  rw [hln] at hst hrc
  obtain ⟨T, hT⟩ : ∃ T, T = topF xs n S := ⟨_, rfl⟩
  rw [← hT] at hst hrc
  rw [hst] at e
  have hTb : ∀ c, T.testBit c = true ↔ c < n ∧ S.testBit c = true ∧ reachN xs c = S := fun c => by
    rw [hT, testBit_topF, Bool.and_eq_true, Bool.and_eq_true, decide_eq_true_eq, beq_iff_eq]
  have hat : (partsN xs (2 ^ n - 1)).getD i 0 = T := by
    rw [e, getD_app_ge (by omega), hl, Nat.sub_self]; rfl
  have hSn : ∀ c, S.testBit c = true → c < n := fun c h => bit_lt hS h
  have hall2 : all ||| T = less (2 ^ n - 1) (less S T) := Nat.eq_of_testBit_eq fun c => by
    rw [hall, Nat.testBit_or, testBit_less, testBit_less, testBit_less, testBit_full]
    rcases qT : T.testBit c with _ | _
    · simp
    · have := (hTb c).1 qT
      simp [this.1, this.2.1]
  refine ⟨T, hat, ?_, ?_, ?_, ⟨less S T, pre ++ [T], by rw [e]; simp, by simp [hl], less_lt hS, hrc, hall2, ?_⟩, ?_⟩
  · refine Nat.pos_of_ne_zero fun hz => ?_
    obtain ⟨a, ha⟩ := Nat.exists_testBit_of_ne_zero h0
    obtain ⟨b, hb, hbS⟩ := top_some hp (by rw [hln]; exact hS) hc (8 - scK xs a) a ha (Nat.le_refl _)
    have := (hTb b).2 ⟨hSn b hb, hb, hbS⟩
    rw [hz, Nat.zero_testBit] at this
    cases this
  · exact lt_of_testBit fun m hm => by
      rcases q : T.testBit m with _ | _
      · rfl
      · have := ((hTb m).1 q).1; omega
  · refine Nat.eq_of_testBit_eq fun c => ?_
    rw [hall, Nat.testBit_and, testBit_less, Nat.zero_testBit]
    rcases qT : T.testBit c with _ | _
    · simp
    · simp [((hTb c).1 qT).2.1]
  · intro U hU c hcS
    rw [testBit_less, Bool.and_eq_true, Bool.not_eq_true'] at hcS
    rcases List.mem_append.1 hU with h | h
    · exact hpre U h c hcS.1
    · simp at h; subst h; exact hcS.2
  · intro a ha haT
    obtain ⟨-, haS, hra⟩ := (hTb a).1 haT
    refine ⟨?_, ?_, fun b hb hbn => ?_⟩
    · unfold partI
      rw [tourB_true.2 hp, show inB (a : Int) 0 ((n : Int) - 1) = true from inB_true.2 ⟨by omega, by omega⟩, Bool.and_self, if_pos rfl, hln, Int.toNat_natCast]
      refine findI_hit (by rw [nI_len]; exact hi) ?_ fun x hx => ?_
      · rw [← List.getD_eq_getElem?_getD, nI_getD hi, hat]
        unfold partP
        rw [Int.toNat_natCast]; exact haT
      · obtain ⟨k, hk, rfl⟩ := List.getElem_of_mem hx
        rw [List.length_take, nI_len] at hk
        rw [List.getElem_take]
        unfold nI partP
        rw [List.getElem_map, Int.toNat_natCast]
        have hkp : k < pre.length := by omega
        have : (partsN xs (2 ^ n - 1))[k]'(by omega) = pre[k] := by
          simp only [e]
          rw [List.getElem_append_left hkp]
        rw [this]
        exact hpre _ (List.getElem_mem _) a haS
    · rw [hra, hall2]
      refine Nat.eq_of_testBit_eq fun c => ?_
      rw [Nat.testBit_and, testBit_less, testBit_less, testBit_full]
      rcases qS : S.testBit c with _ | _
      · rcases qT : T.testBit c with _ | _
        · rfl
        · rw [((hTb c).1 qT).2.1] at qS; cases qS
      · have := hSn c qS
        simp [this]
    · rw [hall2, testBit_less, testBit_full, decide_eq_true hb, Bool.true_and, Bool.not_eq_false', testBit_less, Bool.and_eq_true, Bool.not_eq_true'] at hbn
      obtain ⟨hbS, hbT⟩ := hbn
      rcases q : bt xs a b with _ | _
      · exfalso
        have hab : a ≠ b := fun h => by subst h; rw [haT] at hbT; cases hbT
        have hba : bt xs b a = true := by rw [(tr_bit hp hb ha).2 (Ne.symm hab), q]; rfl
        have hrb := reach_facts hp (a := b) (by rw [hln]; exact hb)
        have hra2 := reach_facts hp (a := a) (by rw [hln]; exact ha)
        have hca : (reachN xs b).testBit a = true := hrb.2.1 b a hrb.1 hba
        have h1 : reachN xs b = S := sub_eq (fun c h => hrb.2.2.1 S hc hbS c h) fun c h => by
          rw [← hra] at h
          exact hra2.2.2.1 _ hrb.2.1 hca c h
        have := (hTb b).2 ⟨hb, hbS, h1⟩
        rw [this] at hbT; cases hbT
      · rfl
end
end Go.Proofs.YthoodjjjklbggaaGreatDoor

namespace Go.Proofs.YthoodjjjklbggaaGreatDoor
open Go.RowKit Go.Sort
set_option maxRecDepth 100000
theorem step_appendE {ops : Array Oper} {o : Oper} {a : Act} {K : Act → World → Prop} {Q : Exit → Act → World → Prop} {E : Prop} (w : World) (hgd : o.guard = none) (s x : Operand)
    (ho : o.op = .call { callee := .builtin .append, args := #[s, x], argTypes := #[23, 23] })
    (base g0 : Nat) (ys : List Int) (m : Nat) (hm : ys.length = m) (h0 : 0 < m) (gx cx : Nat) (hs : a.eval s = .slice (some ⟨g0, 0, none⟩) 0 0) (hown : Own w base (.slice (some ⟨g0, 0, none⟩) 0 0) []) (hx : a.eval x = .slice (some ⟨gx, 0, none⟩) m cx)
    (hc : ∀ k, k < m → w.cell? ⟨gx, k, none⟩ = some (.int .i64 (ys.getD k 0))) (hlen : m ≤ 1099511627776) (hbase : base ≤ w.heap.size)
    (h : ∀ g c w', Own w' base (.slice (some ⟨g, 0, none⟩) m c) ys → w.grownBy w' (some g0) → K (a.put o.dst (.slice (some ⟨g, 0, none⟩) m c)) w') :
    if Region.wanted o (yielded ops a.tmps) = true then Oper.wp Tryz.prog o a w K Q else E := by
  subst hm
  have hw : Region.wanted o (yielded ops a.tmps) = true := by simp [Region.wanted, hgd]
  rw [if_pos hw]
  obtain ⟨i0, hi, hz0, hz1, hz2⟩ := info_parts i64_info
  have hnews : ∀ j u, (ys.map (Value.int .i64))[j]? = some u → w.cell? ((⟨gx, 0, none⟩ : Addr).add j) = some u := by
    intro j u hj
    have hjl : j < ys.length := by simpa using (List.getElem?_eq_some_iff.1 hj).1
    rw [Addr.add_lit, Nat.zero_add, hc j hjl]
    simp [hjl] at hj
    simp [hjl, hj]
  have h1 : ∀ u ∈ ys.map (Value.int .i64), u.oneCell' = true := by intro u hu; simp at hu; obtain ⟨y, -, rfl⟩ := hu; rfl
  obtain ⟨v', w', hr, h2, h3, -, -⟩ := run_append_own_at (P := Tryz.prog) w base 23 o.type 3 i0 (.int .i64 0) 1 8 Tryz.underlying23 hi hz0 hz1 hz2 rfl (by decide) _ 0 [] hown ⟨gx, 0, none⟩ ys.length cx (ys.map (Value.int .i64)) (by simp) hnews h1 (by unfold maxLen; omega) (by omega) hbase
  have h2' : Own w' base v' ys := by unfold Own; simpa using h2
  obtain ⟨A, c', e, -, -, hA⟩ := h2'.form
  obtain ⟨g', rfl, -, -⟩ := hA h0
  subst e
  unfold Oper.wp execOp
  simp only [ho, resolve, invoke, builtin, Sem.run_bind, Sem.run_pure, Result.andThen_ok, List.map_toArray, List.map_cons, List.map_nil, hs, hx, hr]
  exact h g' c' w' h2' h3
theorem fs_filter {β : Type} (l : List Nat) (p : Nat → Bool) (F : Nat → Option β) : (l.filter p).findSome? F = l.findSome? fun b => if p b = true then F b else none := by
  induction l with
  | nil => rfl
  | cons x l ih =>
    rcases q : p x with _ | _
    · rw [List.filter_cons_of_neg (by simp [q]), ih, List.findSome?_cons]; simp [q]
    · rw [List.filter_cons_of_pos q, List.findSome?_cons, List.findSome?_cons, ih]; simp [q]
end Go.Proofs.YthoodjjjklbggaaGreatDoor

namespace Go.Proofs.YthoodjjjklbggaaGreatDoor
open Go.RowKit Go.Sort
set_option maxRecDepth 100000
theorem beqNatW (x b : Nat) : ((x : Int) == (b : Int)) = (x == b) := by rw [Bool.eq_iff_iff, beq_iff_eq, beq_iff_eq]; omega
end Go.Proofs.YthoodjjjklbggaaGreatDoor

namespace Go.Proofs.YthoodjjjklbggaaGreatDoor
open Go.RowKit Go.Sort
set_option maxRecDepth 100000
noncomputable def strB (xs : List Int) (n : Nat) : Bool := decide ((partsN xs (2 ^ n - 1)).length = 1)
theorem strB_iff {n : Nat} {xs : List Int} (hp : tourP n xs) : strB xs n = true ↔ strP xs n := by
  unfold strB; rw [decide_eq_true_eq, strong_parts hp]
theorem partsF_len (xs : List Int) (n : Nat) : ∀ f S, (partsF xs n f S).length ≤ f := by
  intro f
  induction f with
  | zero => intro S; simp [partsF]
  | succ f ih =>
    intro S
    rw [partsF]
    split
    · simp
    · have := ih (less S (topF xs n S)); simp; omega
theorem partsN_len {n : Nat} {xs : List Int} (hp : tourP n xs) : (partsN xs (2 ^ n - 1)).length ≤ 256 := by
  have h := partsF_len xs xs.length (2 ^ n - 1 + 1) (2 ^ n - 1)
  have h2 : 2 ^ n ≤ 256 := pow_le (by have := hp.1; omega)
  have := Nat.one_le_two_pow (n := n)
  unfold partsN
  omega
section
variable {n : Nat} {xs : List Int} {sl : Value} {w : World}
/-- the games whose reversal makes the tour weak -/
def wkP (n : Nat) (xs : List Int) (r : List Int) : Prop := ∃ a b : Nat, r = [(a : Int), (b : Int)] ∧ a < n ∧ b < n ∧ bt xs a b = true ∧ strB (flipL xs a b) n = false
end
end Go.Proofs.YthoodjjjklbggaaGreatDoor

