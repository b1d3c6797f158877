/- Texts put together: WyP, FmP, FmV, RtQ, SwC0, Rot2, Square, MapI, KdC. -/
import Derived.Test.YthoodjjjklbggaaDoorMRotational13
import Derived.Test.YthoodjjjklbggaaDoorMRotational11
import Derived.Test.YthoodjjjklbggaaDoorMRotational04
import Derived.Test.YthoodjjjklbggaaDoorMRotational02
import Derived.Test.YthoodjjjklbggaaDoorMRotational01
import Derived.Test.YthoodjjjklbggaaDoorMRotational17
import Derived.Test.YthoodjjjklbggaaDoorMRotational15
import Derived.MapKept
namespace Go.Proofs.YthoodjjjklbggaaDoor
open Go.RowKit Go.Sort
set_option maxRecDepth 100000
theorem len_leG {α : Type} [DecidableEq α] : ∀ {q m : List α}, q.Nodup → (∀ x ∈ q, x ∈ m) → q.length ≤ m.length := by
  intro q
  induction q with
  | nil => intro m _ _; simp
  | cons a q ih =>
    intro m hn hs
    have ha : a ∈ m := hs a (by simp)
    rw [List.nodup_cons] at hn
    have := ih (m := m.erase a) hn.2 fun x hx => (List.mem_erase_of_ne (fun e => by subst e; exact hn.1 hx)).2 (hs x (by simp [hx]))
    rw [List.length_erase_of_mem ha] at this
    have := List.length_pos_of_mem ha
    simp only [List.length_cons]
    omega
theorem perm_fullG {α : Type} [DecidableEq α] : ∀ {q m : List α}, q.Nodup → (∀ x ∈ q, x ∈ m) → m.length ≤ q.length → q.Perm m := by
  intro q
  induction q with
  | nil =>
    intro m _ _ h
    have : m = [] := List.eq_nil_of_length_eq_zero (by simpa using h)
    rw [this]
  | cons a q ih =>
    intro m hn hs hl
    have ha : a ∈ m := hs a (by simp)
    rw [List.nodup_cons] at hn
    have h1 : (m.erase a).length ≤ q.length := by
      rw [List.length_erase_of_mem ha]
      simp only [List.length_cons] at hl
      omega
    have h2 := ih (m := m.erase a) hn.2 (fun x hx => (List.mem_erase_of_ne (fun e => by subst e; exact hn.1 hx)).2 (hs x (by simp [hx]))) h1
    exact (h2.cons a).trans (List.perm_cons_erase ha).symm
/-- the ways from a through all of S whose last player is in Q -/
def wyQ (r : Nat → Nat → Bool) (Q : Nat → Bool) (n : Nat) : Nat → Nat → Nat → Nat
  | 0, _, a => if Q a then 1 else 0
  | f + 1, S, a => if S = 0 then (if Q a then 1 else 0) else (((List.range n).filter fun b => S.testBit b && r a b).map fun b => wyQ r Q n f (less S (2 ^ b)) b).sum
theorem waysN_wyQ (xs : List Int) (n : Nat) : ∀ f S a, waysN xs n f S a = wyQ (bt xs) (fun _ => true) n f S a := by
  intro f
  induction f with
  | zero => intro S a; rfl
  | succ f ih =>
    intro S a
    rw [waysN, wyQ]
    split
    · rfl
    · have e : memN (S &&& winsN xs a) n = (List.range n).filter fun b => S.testBit b && bt xs a b := by
        unfold memN
        refine List.filter_congr fun x _ => ?_
        rw [Nat.testBit_and]
      rw [e]
      congr 1
      exact List.map_congr_left fun b _ => ih _ _
/-- each beats the next one -/
def chn (r : Nat → Nat → Bool) : Nat → List Nat → Bool
  | _, [] => true
  | a, b :: l => r a b && chn r b l
def way (r : Nat → Nat → Bool) : List Nat → Bool
  | [] => true
  | a :: l => chn r a l
theorem chn_snoc (r : Nat → Nat → Bool) (b : Nat) : ∀ (l : List Nat) (a : Nat), chn r a (l ++ [b]) = (chn r a l && r (lastN (a :: l)) b) := by
  intro l
  induction l with
  | nil => intro a; simp [chn, lastN]
  | cons x l ih =>
    intro a
    rw [List.cons_append, chn, chn, ih, Bool.and_assoc]
    have : lastN (a :: x :: l) = lastN (x :: l) := by simp [lastN]
    rw [this]
theorem way_snoc (r : Nat → Nat → Bool) (b : Nat) {l : List Nat} (h : l ≠ []) : way r (l ++ [b]) = (way r l && r (lastN l) b) := by
  cases l with
  | nil => exact absurd rfl h
  | cons a l => exact chn_snoc r b l a
theorem lastN_snoc' (l : List Nat) (b : Nat) : lastN (l ++ [b]) = b := by simp [lastN]
theorem way_iff (r : Nat → Nat → Bool) : ∀ l : List Nat, way r l = true ↔ ∀ i, i + 1 < l.length → r (l.getD i 0) (l.getD (i + 1) 0) = true := by
  intro l
  cases l with
  | nil => simp [way]
  | cons a l =>
    show chn r a l = true ↔ _
    induction l generalizing a with
    | nil => simp [chn]
    | cons b l ih =>
      rw [chn, Bool.and_eq_true, ih]
      constructor
      · rintro ⟨h1, h2⟩ i hi
        cases i with
        | zero => exact h1
        | succ i => exact h2 i (by simpa using hi)
      · intro h
        exact ⟨h 0 (by simp), fun i hi => h (i + 1) (by simpa using hi)⟩
theorem countP_flatMap' {α β : Type} (p : β → Bool) (f : α → List β) : ∀ l : List α, (l.flatMap f).countP p = (l.map fun x => (f x).countP p).sum := by
  intro l
  induction l with
  | nil => rfl
  | cons x l ih => rw [List.flatMap_cons, List.countP_append, List.map_cons, List.sum_cons, ih]
theorem sum_filter_zero {l : List Nat} {p : Nat → Bool} {F : Nat → Nat} (h : ∀ x ∈ l, p x = false → F x = 0) : (l.map F).sum = ((l.filter p).map F).sum := by
  induction l with
  | nil => rfl
  | cons x l ih =>
    have h1 := ih fun y hy => h y (by simp [hy])
    rw [List.map_cons, List.sum_cons, List.filter_cons, h1]
    rcases q : p x with _ | _
    · rw [h x (by simp) q]; simp
    · simp
theorem setW_less_snoc {n : Nat} {pre : List Nat} {b : Nat} : less (2 ^ n - 1) (setW (pre ++ [b])) = less (less (2 ^ n - 1) (setW pre)) (2 ^ b) := Nat.eq_of_testBit_eq fun j => by
  rw [testBit_less, testBit_less, testBit_less, setW_snoc, Nat.testBit_or]
  cases (2 ^ n - 1).testBit j <;> cases (setW pre).testBit j <;> cases (2 ^ b).testBit j <;> rfl
/-- the number of ways is a count of orders -/
theorem count_from {r : Nat → Nat → Bool} {Q : Nat → Bool} {n : Nat} : ∀ (m : Nat) (pre : List Nat), pre ≠ [] → pre.Nodup → (∀ x ∈ pre, x < n) → pre.length + m = n →
    (ordFrom n m pre).countP (fun l => way r l && Q (lastN l)) = if way r pre = true then wyQ r Q n m (less (2 ^ n - 1) (setW pre)) (lastN pre) else 0 := by
  intro m
  induction m with
  | zero =>
    intro pre hne hnd hlt hl
    rw [ordFrom, List.countP_cons, List.countP_nil, wyQ, Nat.zero_add]
    cases way r pre <;> simp
  | succ m ih =>
    intro pre hne hnd hlt hl
    rw [ordFrom, countP_flatMap']
    have hS : less (2 ^ n - 1) (setW pre) ≠ 0 := by
      intro h0
      have hall : ∀ b, b < n → b ∈ pre := fun b hb => by
        have := congrArg (fun z => z.testBit b) h0
        simp only [testBit_less, Nat.zero_testBit, testBit_full, testBit_setW, decide_eq_true hb, Bool.true_and, Bool.not_eq_eq_eq_not, Bool.not_false] at this
        simpa using this
      have := len_leG (q := List.range n) (m := pre) List.nodup_range fun x hx => hall x (List.mem_range.1 hx)
      rw [List.length_range] at this
      omega
    have hstep : ∀ b ∈ (List.range n).filter fun b => !pre.contains b, (ordFrom n m (pre ++ [b])).countP (fun l => way r l && Q (lastN l)) = if (way r pre && r (lastN pre) b) = true then wyQ r Q n m (less (less (2 ^ n - 1) (setW pre)) (2 ^ b)) b else 0 := by
      intro b hb
      rw [List.mem_filter, List.mem_range] at hb
      have hb2 : b ∉ pre := by simpa using hb.2
      rw [ih (pre ++ [b]) (by simp) (List.nodup_append.2 ⟨hnd, by simp, fun x hx y hy => by simp at hy; subst hy; intro e; subst e; exact hb2 hx⟩) (fun x hx => by
        rcases List.mem_append.1 hx with h | h
        · exact hlt x h
        · simp at h; subst h; exact hb.1) (by rw [List.length_append, List.length_singleton]; omega), way_snoc r b hne, setW_less_snoc, lastN_snoc']
    rw [List.map_congr_left hstep]
    rcases q : way r pre with _ | _
    · rw [if_neg (by decide)]
      have : ∀ l : List Nat, (l.map fun b => if (false && r (lastN pre) b) = true then wyQ r Q n m (less (less (2 ^ n - 1) (setW pre)) (2 ^ b)) b else 0).sum = 0 := by
        intro l
        induction l with
        | nil => rfl
        | cons x l ih => rw [List.map_cons, List.sum_cons, ih]; rfl
      exact this _
    · rw [if_pos rfl, wyQ, if_neg hS]
      rw [sum_filter_zero (p := fun b => r (lastN pre) b) (fun x _ hx => by rw [hx]; rfl), List.filter_filter]
      congr 1
      have hf : ((List.range n).filter fun b => r (lastN pre) b && !pre.contains b) = (List.range n).filter fun b => (less (2 ^ n - 1) (setW pre)).testBit b && r (lastN pre) b := by
        refine List.filter_congr fun b hb => ?_
        rw [testBit_less, testBit_full, decide_eq_true (List.mem_range.1 hb), testBit_setW, Bool.true_and, Bool.and_comm]
      rw [hf]
      refine List.map_congr_left fun b hb => ?_
      rw [List.mem_filter, Bool.and_eq_true] at hb
      rw [hb.2.2]; rfl
/-- how many orders are ways that end in Q -/
def cntQ (r : Nat → Nat → Bool) (Q : Nat → Bool) (n : Nat) : Nat := (ordL n).countP fun l => way r l && Q (lastN l)
theorem ordL_heads {n : Nat} (h1 : 1 ≤ n) : ordL n = (List.range n).flatMap fun a => ordFrom n (n - 1) [a] := by
  obtain ⟨m, rfl⟩ : ∃ m, n = m + 1 := ⟨n - 1, by omega⟩
  unfold ordL
  rw [ordFrom]
  have : ((List.range (m + 1)).filter fun b => !([] : List Nat).contains b) = List.range (m + 1) := by
    rw [List.filter_eq_self]; intro a _; rfl
  rw [this]
  rfl
theorem setW_one (a : Nat) : setW [a] = 2 ^ a := by simp [setW]
theorem cnt_sum {r : Nat → Nat → Bool} {Q : Nat → Bool} {n : Nat} (h1 : 1 ≤ n) : cntQ r Q n = ((List.range n).map fun a => wyQ r Q n (n - 1) (less (2 ^ n - 1) (2 ^ a)) a).sum := by
  unfold cntQ
  rw [ordL_heads h1, countP_flatMap']
  congr 1
  refine List.map_congr_left fun a ha => ?_
  have ha := List.mem_range.1 ha
  rw [count_from (n - 1) [a] (by simp) (by simp) (fun x hx => by simp at hx; omega) (by simp; omega), if_pos (show way r [a] = true from rfl), setW_one]
  rfl
/-- more steps than players change nothing -/
theorem wyQ_fuel {r : Nat → Nat → Bool} {Q : Nat → Bool} {n : Nat} : ∀ f g S a, S < 2 ^ n → (memN S n).length ≤ f → (memN S n).length ≤ g → wyQ r Q n f S a = wyQ r Q n g S a := by
  intro f
  induction f with
  | zero =>
    intro g S a hS hf hg
    have h0 : S = 0 := (card_zero hS).1 (by omega)
    subst h0
    cases g with
    | zero => rfl
    | succ g => rw [wyQ, wyQ, if_pos rfl]
  | succ f ih =>
    intro g S a hS hf hg
    cases g with
    | zero =>
      have h0 : S = 0 := (card_zero hS).1 (by omega)
      subst h0
      rw [wyQ, wyQ, if_pos rfl]
    | succ g =>
      rw [wyQ, wyQ]
      split
      · rfl
      · congr 1
        refine List.map_congr_left fun b hb => ?_
        rw [List.mem_filter, List.mem_range, Bool.and_eq_true] at hb
        have := card_less (mem_memN.2 ⟨hb.1, hb.2.1⟩)
        exact ih g _ b (less_lt hS) (by omega) (by omega)
theorem ordFrom_nodup {n : Nat} : ∀ (m : Nat) (pre : List Nat), pre.Nodup → (ordFrom n m pre).Nodup := by
  intro m
  induction m with
  | zero => intro pre _; simp [ordFrom]
  | succ m ih =>
    intro pre hp
    rw [ordFrom]
    have hl : ((List.range n).filter fun b => !pre.contains b).Nodup := List.Pairwise.filter _ List.nodup_range
    have hm : ∀ b ∈ (List.range n).filter fun b => !pre.contains b, (pre ++ [b]).Nodup := fun b hb => by
      rw [List.mem_filter] at hb
      have hb2 : b ∉ pre := by simpa using hb.2
      exact List.nodup_append.2 ⟨hp, by simp, fun x hx y hy => by simp at hy; subst hy; intro e; subst e; exact hb2 hx⟩
    generalize ((List.range n).filter fun b => !pre.contains b) = L at *
    induction L with
    | nil => simp
    | cons b L ihL =>
      rw [List.flatMap_cons]
      rw [List.nodup_cons] at hl
      refine List.nodup_append.2 ⟨ih _ (hm b (by simp)), ihL hl.2 fun c hc => hm c (by simp [hc]), fun x hx y hy => ?_⟩
      rw [List.mem_flatMap] at hy
      obtain ⟨c, hc, hy⟩ := hy
      obtain ⟨s1, e1, -⟩ := (mem_ordFrom (hm b (by simp))).1 hx
      obtain ⟨s2, e2, -⟩ := (mem_ordFrom (hm c (by simp [hc]))).1 hy
      intro e
      rw [e1, e2, List.append_assoc, List.append_assoc] at e
      have := List.append_cancel_left e
      simp at this
      rw [this.1] at hl
      exact hl.1 hc
theorem ordL_nodup (n : Nat) : (ordL n).Nodup := ordFrom_nodup n [] (by simp)
/-- a turn of the orders that keeps them and loses none counts alike -/
theorem ord_turn {n : Nat} {g : List Nat → List Nat} (hg : ∀ l ∈ ordL n, g l ∈ ordL n) (hi : ∀ l ∈ ordL n, ∀ m ∈ ordL n, g l = g m → l = m) (p : List Nat → Bool) : (ordL n).countP p = (ordL n).countP fun l => p (g l) := by
  have hnd : ((ordL n).map g).Nodup := by
    have := ordL_nodup n
    generalize ordL n = L at *
    have key : ∀ M : List (List Nat), M.Nodup → (∀ l ∈ M, l ∈ L) → (M.map g).Nodup := by
      intro M
      induction M with
      | nil => intro _ _; simp
      | cons x M ih =>
        intro h1 h2
        rw [List.nodup_cons] at h1
        rw [List.map_cons, List.nodup_cons]
        refine ⟨fun hx => ?_, ih h1.2 fun l hl => h2 l (by simp [hl])⟩
        obtain ⟨y, hy, e⟩ := List.mem_map.1 hx
        rw [hi y (h2 y (by simp [hy])) x (h2 x (by simp)) e] at hy
        exact h1.1 hy
    exact key L this fun l h => h
  have hp : ((ordL n).map g).Perm (ordL n) := perm_fullG hnd (fun x hx => by
    obtain ⟨y, hy, rfl⟩ := List.mem_map.1 hx
    exact hg y hy) (by simp)
  rw [← hp.countP_eq, List.countP_map]
  rfl
theorem way_map {r s : Nat → Nat → Bool} {f : Nat → Nat} {n : Nat} (hf : ∀ a b, a < n → b < n → s (f a) (f b) = r a b) : ∀ {l : List Nat}, (∀ x ∈ l, x < n) → way s (l.map f) = way r l := by
  intro l
  cases l with
  | nil => intro _; rfl
  | cons a l =>
    show (∀ x ∈ a :: l, x < n) → chn s (f a) (l.map f) = chn r a l
    induction l generalizing a with
    | nil => intro _; rfl
    | cons b l ih =>
      intro h
      rw [List.map_cons, chn, chn, hf a b (h a (by simp)) (h b (by simp)), ih b fun x hx => h x (by simp [hx])]
theorem lastN_map {f : Nat → Nat} {l : List Nat} (h : l ≠ []) : lastN (l.map f) = f (lastN l) := by
  have h0 : 0 < l.length := List.length_pos_iff.2 h
  unfold lastN
  rw [List.length_map]
  simp [List.getD_eq_getElem?_getD, show l.length - 1 < l.length by omega]
theorem map_turn {n : Nat} {f : Nat → Nat} (hf1 : ∀ a, a < n → f a < n) (hf2 : ∀ a b, a < n → b < n → f a = f b → a = b) : (∀ l ∈ ordL n, l.map f ∈ ordL n) ∧ ∀ l ∈ ordL n, ∀ m ∈ ordL n, l.map f = m.map f → l = m := by
  constructor
  · intro l hl
    obtain ⟨h1, h2, h3⟩ := mem_ordL.1 hl
    refine mem_ordL.2 ⟨by simp [h1], fun x hx => ?_, ?_⟩
    · obtain ⟨y, hy, rfl⟩ := List.mem_map.1 hx
      exact hf1 y (h2 y hy)
    · rw [List.Nodup, List.pairwise_map]
      exact h3.imp_of_mem fun ha hb hne e => hne (hf2 _ _ (h2 _ ha) (h2 _ hb) e)
  · intro l hl m hm e
    obtain ⟨h1, h2, -⟩ := mem_ordL.1 hl
    obtain ⟨k1, k2, -⟩ := mem_ordL.1 hm
    refine List.ext_getElem (by omega) fun i hi hi2 => ?_
    have := congrArg (fun z => z[i]?) e
    simp only [List.getElem?_map, List.getElem?_eq_getElem hi, List.getElem?_eq_getElem hi2, Option.map_some, Option.some.injEq] at this
    exact hf2 _ _ (h2 _ (List.getElem_mem hi)) (k2 _ (List.getElem_mem hi2)) this
/-- the number of ways under other names -/
theorem cnt_rename {r s : Nat → Nat → Bool} {f : Nat → Nat} {n : Nat} (hf1 : ∀ a, a < n → f a < n) (hf2 : ∀ a b, a < n → b < n → f a = f b → a = b) (hf : ∀ a b, a < n → b < n → s (f a) (f b) = r a b) : cntQ s (fun _ => true) n = cntQ r (fun _ => true) n := by
  obtain ⟨t1, t2⟩ := map_turn hf1 hf2
  unfold cntQ
  rw [ord_turn t1 t2]
  refine List.countP_congr fun l hl => ?_
  rw [way_map hf (mem_ordL.1 hl).2.1]
theorem chn_reverse {r s : Nat → Nat → Bool} (h : ∀ a b, s a b = r b a) (l : List Nat) : way s l.reverse = way r l := by
  rw [Bool.eq_iff_iff, way_iff, way_iff, List.length_reverse]
  have hg : ∀ i, i < l.length → l.reverse.getD i 0 = l.getD (l.length - 1 - i) 0 := fun i hi => by
    simp [List.getD_eq_getElem?_getD, List.getElem?_reverse hi]
  constructor
  · intro hw i hi
    have := hw (l.length - 1 - (i + 1)) (by omega)
    rw [hg _ (by omega), hg _ (by omega), h] at this
    rwa [show l.length - 1 - (l.length - 1 - (i + 1) + 1) = i by omega, show l.length - 1 - (l.length - 1 - (i + 1)) = i + 1 by omega] at this
  · intro hw i hi
    rw [hg _ (by omega), hg _ (by omega), h]
    have := hw (l.length - 1 - (i + 1)) (by omega)
    rwa [show l.length - 1 - (i + 1) + 1 = l.length - 1 - i by omega] at this
theorem rev_turn (n : Nat) : (∀ l ∈ ordL n, l.reverse ∈ ordL n) ∧ ∀ l ∈ ordL n, ∀ m ∈ ordL n, l.reverse = m.reverse → l = m := by
  constructor
  · intro l hl
    obtain ⟨h1, h2, h3⟩ := mem_ordL.1 hl
    exact mem_ordL.2 ⟨by simp [h1], fun x hx => h2 x (by simpa using hx), (List.reverse_perm l).symm.nodup h3⟩
  · intro l _ m _ e
    exact List.reverse_inj.1 e
theorem way_congr {r s : Nat → Nat → Bool} {n : Nat} (h : ∀ a b, a < n → b < n → s a b = r a b) {l : List Nat} (hl : ∀ x ∈ l, x < n) : way s l = way r l := by
  have := way_map (f := fun x => x) (r := r) (s := s) h hl
  rwa [List.map_id'] at this
/-- the number of ways of the reversed tour -/
theorem cnt_reverse {r s : Nat → Nat → Bool} {n : Nat} (h : ∀ a b, a < n → b < n → s a b = r b a) : cntQ s (fun _ => true) n = cntQ r (fun _ => true) n := by
  unfold cntQ
  rw [ord_turn (rev_turn n).1 (rev_turn n).2]
  refine List.countP_congr fun l hl => ?_
  have hm := (mem_ordL.1 ((rev_turn n).1 l hl)).2.1
  rw [← way_congr (s := s) (r := fun a b => s a b) (fun _ _ _ _ => rfl) hm, way_congr (r := fun a b => r b a) h hm, chn_reverse (r := r) (s := fun a b => r b a) (fun _ _ => rfl)]
/-- closed orders: each beats the next one, the last one the first -/
def clo2 (r : Nat → Nat → Bool) (l : List Nat) : Bool := way r l && r (lastN l) (l.headD 0)
def rot1 : List Nat → List Nat
  | [] => []
  | a :: l => l ++ [a]
theorem clo_rot (r : Nat → Nat → Bool) {l : List Nat} (h : l ≠ []) : clo2 r (rot1 l) = clo2 r l := by
  cases l with
  | nil => exact absurd rfl h
  | cons a l =>
    cases l with
    | nil => rfl
    | cons b l =>
      show (way r ((b :: l) ++ [a]) && r (lastN ((b :: l) ++ [a])) b) = (chn r a (b :: l) && r (lastN (a :: b :: l)) a)
      rw [way_snoc r a (by simp), lastN_snoc', chn, show lastN (a :: b :: l) = lastN (b :: l) by simp [lastN]]
      show (chn r b l && r (lastN (b :: l)) a && r a b) = (r a b && chn r b l && r (lastN (b :: l)) a)
      cases chn r b l <;> cases r (lastN (b :: l)) a <;> cases r a b <;> rfl
theorem rot_turn (n : Nat) : (∀ l ∈ ordL n, rot1 l ∈ ordL n) ∧ ∀ l ∈ ordL n, ∀ m ∈ ordL n, rot1 l = rot1 m → l = m := by
  constructor
  · intro l hl
    obtain ⟨h1, h2, h3⟩ := mem_ordL.1 hl
    cases l with
    | nil => exact hl
    | cons a l =>
      show l ++ [a] ∈ ordL n
      refine mem_ordL.2 ⟨by simpa using h1, (fun x hx => h2 x (by
        rcases List.mem_append.1 hx with h | h
        · exact List.mem_cons_of_mem _ h
        · simp at h; subst h; exact List.mem_cons_self)), ?_⟩
      rw [List.nodup_cons] at h3
      exact List.nodup_append.2 ⟨h3.2, by simp, fun x hx y hy => by simp at hy; subst hy; intro e; subst e; exact h3.1 hx⟩
  · intro l hl m hm e
    obtain ⟨h1, -, -⟩ := mem_ordL.1 hl
    obtain ⟨k1, -, -⟩ := mem_ordL.1 hm
    cases l with
    | nil => cases m with
      | nil => rfl
      | cons b m => simp at h1 k1; omega
    | cons a l => cases m with
      | nil => simp at h1 k1; omega
      | cons b m =>
        have := List.append_inj' (show l ++ [a] = m ++ [b] from e) rfl
        simp at this
        rw [this.1, this.2]
/-- closed orders with s at the place i -/
def cntAt (r : Nat → Nat → Bool) (n i s : Nat) : Nat := (ordL n).countP fun l => clo2 r l && decide (l.getD i 0 = s)
def cntC (r : Nat → Nat → Bool) (n : Nat) : Nat := (ordL n).countP fun l => clo2 r l
theorem cntAt_step {r : Nat → Nat → Bool} {n i s : Nat} (hi : i + 1 < n) : cntAt r n i s = cntAt r n (i + 1) s := by
  unfold cntAt
  rw [ord_turn (rot_turn n).1 (rot_turn n).2]
  refine List.countP_congr fun l hl => ?_
  have h1 := (mem_ordL.1 hl).1
  cases l with
  | nil => simp at h1; omega
  | cons a l =>
    rw [clo_rot r (by simp)]
    have e : (rot1 (a :: l)).getD i 0 = (a :: l).getD (i + 1) 0 := by
      show (l ++ [a]).getD i 0 = l.getD i 0
      simp [List.getD_eq_getElem?_getD, List.getElem?_append_left (show i < l.length by simp at h1; omega)]
    rw [e]
theorem cntAt_zero {r : Nat → Nat → Bool} {n s : Nat} : ∀ i, i < n → cntAt r n i s = cntAt r n 0 s := by
  intro i
  induction i with
  | zero => intro _; rfl
  | succ i ih => intro hi; rw [← cntAt_step hi, ih (by omega)]
def sumW (f : Nat → Nat) : Nat → Nat
  | 0 => 0
  | k + 1 => sumW f k + f k
theorem sumW_congr {f g : Nat → Nat} : ∀ {n : Nat}, (∀ k, k < n → f k = g k) → sumW f n = sumW g n := by
  intro n
  induction n with
  | zero => intro _; rfl
  | succ n ih => intro h; rw [sumW, sumW, ih fun k hk => h k (by omega), h n (by omega)]
theorem sumW_add (f g : Nat → Nat) : ∀ n, sumW (fun i => f i + g i) n = sumW f n + sumW g n := by
  intro n
  induction n with
  | zero => rfl
  | succ n ih => simp only [sumW, ih]; omega
theorem sumW_const (c : Nat) : ∀ n, sumW (fun _ => c) n = n * c := by
  intro n
  induction n with
  | zero => simp [sumW]
  | succ n ih => rw [sumW, ih, Nat.succ_mul]
theorem sumW_one {f : Nat → Nat} {i0 : Nat} : ∀ n, i0 < n → (∀ i, i < n → f i = if i = i0 then 1 else 0) → sumW f n = 1 := by
  have h0 : ∀ n, n ≤ i0 → (∀ i, i < n → f i = if i = i0 then 1 else 0) → sumW f n = 0 := by
    intro n
    induction n with
    | zero => intro _ _; rfl
    | succ n ih => intro h1 h2; rw [sumW, ih (by omega) fun i hi => h2 i (by omega), h2 n (by omega), if_neg (by omega)]
  intro n
  induction n with
  | zero => intro h; omega
  | succ n ih =>
    intro h1 h2
    rw [sumW, h2 n (by omega)]
    by_cases e : n = i0
    · rw [h0 n (by omega) fun i hi => h2 i (by omega), if_pos e]
    · rw [ih (by omega) fun i hi => h2 i (by omega), if_neg e]
theorem sum_count {p : List Nat → Bool} {q : Nat → List Nat → Bool} {n : Nat} : ∀ M : List (List Nat), (∀ l ∈ M, ∃ i0, i0 < n ∧ ∀ i, i < n → (q i l = true ↔ i = i0)) → sumW (fun i => M.countP fun l => p l && q i l) n = M.countP p := by
  intro M
  induction M with
  | nil => intro _; rw [List.countP_nil, sumW_congr (g := fun _ => 0) fun k _ => List.countP_nil, sumW_const]; rfl
  | cons l M ih =>
    intro h
    rw [sumW_congr (g := fun i => (M.countP fun l => p l && q i l) + if (p l && q i l) = true then 1 else 0) fun k _ => List.countP_cons, sumW_add, ih fun x hx => h x (by simp [hx]), List.countP_cons]
    congr 1
    rcases hpl : p l with _ | _
    · have e : (fun i => if (false && q i l) = true then 1 else 0) = fun _ : Nat => (0 : Nat) := by funext i; rfl
      rw [e, sumW_const]; rfl
    · obtain ⟨i0, hi0, hq⟩ := h l (by simp)
      rw [if_pos rfl]
      refine sumW_one n hi0 fun i hi => ?_
      rw [Bool.true_and]
      by_cases e : i = i0
      · rw [if_pos e, if_pos ((hq i hi).2 e)]
      · rw [if_neg e, if_neg fun hh => e ((hq i hi).1 hh)]
/-- n times the closed orders from s are all closed orders -/
theorem cntC_at {r : Nat → Nat → Bool} {n s : Nat} (hs : s < n) : n * cntAt r n 0 s = cntC r n := by
  rw [← sumW_const, ← sumW_congr (f := fun i => cntAt r n i s) fun k hk => cntAt_zero k hk]
  refine sum_count (ordL n) fun l hl => ?_
  obtain ⟨-, -, h3⟩ := mem_ordL.1 hl
  obtain ⟨o1, o2, o3⟩ := ord_at hl
  obtain ⟨i0, h0, e0⟩ := o3 s hs
  refine ⟨i0, h0, fun i hi => ?_⟩
  rw [decide_eq_true_eq]
  constructor
  · intro e; exact o2 i i0 hi h0 (by rw [e, e0])
  · intro e; subst e; exact e0
theorem headD_getD (l : List Nat) : l.headD 0 = l.getD 0 0 := by cases l <;> rfl
theorem clo_map {r s : Nat → Nat → Bool} {f : Nat → Nat} {n : Nat} (hf : ∀ a b, a < n → b < n → s (f a) (f b) = r a b) {l : List Nat} (hne : l ≠ []) (hl : ∀ x ∈ l, x < n) : clo2 s (l.map f) = clo2 r l := by
  unfold clo2
  have h0 : 0 < l.length := List.length_pos_iff.2 hne
  have hh : (l.map f).headD 0 = f (l.headD 0) := by cases l with
    | nil => exact absurd rfl hne
    | cons a l => rfl
  rw [way_map hf hl, lastN_map hne, hh, hf _ _ (hl _ (by unfold lastN; rw [getD_nat (by omega)]; exact List.getElem_mem _)) (hl _ (by rw [headD_getD, getD_nat h0]; exact List.getElem_mem _))]
theorem ord_ne {n : Nat} (h1 : 1 ≤ n) {l : List Nat} (hl : l ∈ ordL n) : l ≠ [] := fun e => by
  have := (mem_ordL.1 hl).1
  rw [e] at this
  simp at this
  omega
theorem cntC_rename {r s : Nat → Nat → Bool} {f : Nat → Nat} {n : Nat} (h1 : 1 ≤ n) (hf1 : ∀ a, a < n → f a < n) (hf2 : ∀ a b, a < n → b < n → f a = f b → a = b) (hf : ∀ a b, a < n → b < n → s (f a) (f b) = r a b) : cntC s n = cntC r n := by
  obtain ⟨t1, t2⟩ := map_turn hf1 hf2
  unfold cntC
  rw [ord_turn t1 t2]
  refine List.countP_congr fun l hl => ?_
  rw [clo_map hf (ord_ne h1 hl) (mem_ordL.1 hl).2.1]
theorem cntC_reverse {r s : Nat → Nat → Bool} {n : Nat} (h1 : 1 ≤ n) (h : ∀ a b, a < n → b < n → s a b = r b a) : cntC s n = cntC r n := by
  unfold cntC
  rw [ord_turn (rev_turn n).1 (rev_turn n).2]
  refine List.countP_congr fun l hl => ?_
  have hm := (mem_ordL.1 hl).2.1
  have hm2 := (mem_ordL.1 ((rev_turn n).1 l hl)).2.1
  have hne := ord_ne h1 hl
  have h0 : 0 < l.length := List.length_pos_iff.2 hne
  unfold clo2
  rw [way_congr (r := fun a b => r b a) h hm2, chn_reverse (r := r) (s := fun a b => r b a) (fun _ _ => rfl)]
  have e1 : lastN l.reverse = l.headD 0 := by
    unfold lastN
    rw [List.length_reverse, headD_getD]
    simp [List.getD_eq_getElem?_getD, List.getElem?_reverse (show l.length - 1 < l.length by omega)]
    try (congr 2; omega)
  have e2 : l.reverse.headD 0 = lastN l := by
    unfold lastN
    rw [headD_getD]
    simp [List.getD_eq_getElem?_getD, List.getElem?_reverse h0]
  rw [e1, e2, h _ _ (hm _ (by rw [headD_getD, getD_nat h0]; exact List.getElem_mem _)) (hm _ (by unfold lastN; rw [getD_nat (by omega)]; exact List.getElem_mem _))]
/-- the program's count of closed ways -/
theorem cntAt_count {r : Nat → Nat → Bool} {n s : Nat} (hs : s < n) : cntAt r n 0 s = wyQ r (fun a => r a s) n (n - 1) (less (2 ^ n - 1) (2 ^ s)) s := by
  have h1 : 1 ≤ n := by omega
  have hc := count_from (r := r) (Q := fun a => r a s) (n - 1) [s] (by simp) (by simp) (fun x hx => by simp at hx; subst hx; exact hs) (by simp; omega)
  rw [if_pos (show way r [s] = true from rfl), setW_one] at hc
  have e : lastN [s] = s := rfl
  rw [e] at hc
  rw [← hc]
  unfold cntAt
  rw [ordL_heads h1, countP_flatMap']
  have hz : ∀ a ∈ List.range n, ((ordFrom n (n - 1) [a]).countP fun l => clo2 r l && decide (l.getD 0 0 = s)) = if a = s then (ordFrom n (n - 1) [s]).countP fun l => way r l && r (lastN l) s else 0 := fun a ha => by
    have hm : ∀ l ∈ ordFrom n (n - 1) [a], l.getD 0 0 = a := fun l hl => by
      obtain ⟨suf, rfl, -⟩ := (mem_ordFrom (by simp)).1 hl
      rfl
    by_cases e : a = s
    · subst e
      rw [if_pos rfl]
      refine List.countP_congr fun l hl => ?_
      unfold clo2
      rw [headD_getD, hm l hl, decide_eq_true rfl, Bool.and_true]
    · rw [if_neg e, List.countP_eq_zero]
      intro l hl
      rw [hm l hl, decide_eq_false e, Bool.and_false]
      decide
  rw [List.map_congr_left hz]
  have key : ∀ (c : Nat) (k : Nat), ((List.range k).map fun a => if a = s then c else 0).sum = if s < k then c else 0 := by
    intro c k
    induction k with
    | zero => rfl
    | succ k ih =>
      rw [List.range_succ, List.map_append, List.sum_append, ih, List.map_cons, List.map_nil, List.sum_cons, List.sum_nil]
      by_cases h : s < k
      · have h2 : ¬ k = s := by omega
        have h3 : s < k + 1 := by omega
        rw [if_pos h, if_neg h2, if_pos h3]; omega
      · by_cases h2 : k = s
        · have h3 : s < k + 1 := by omega
          rw [if_neg h, if_pos h2, if_pos h3]; omega
        · have h3 : ¬ s < k + 1 := by omega
          rw [if_neg h, if_neg h2, if_neg h3]
          rfl
  rw [key, if_pos hs]
end Go.Proofs.YthoodjjjklbggaaDoor

namespace Go.Proofs.YthoodjjjklbggaaDoor
open Go.RowKit Go.Sort
set_option maxRecDepth 100000
section
variable {n : Nat} {xs ys : List Int}
/-- a game's sign -/
def gmB (xs : List Int) (a b : Nat) : UInt8 := if bt xs a b = true then 49 else 48
/-- a player's games against those behind -/
def gmR (xs : List Int) (a m : Nat) : List UInt8 := (List.range m).map fun k => gmB xs a (a + 1 + k)
theorem gmR_succ (xs : List Int) (a m : Nat) : gmR xs a (m + 1) = gmR xs a m ++ [gmB xs a (a + 1 + m)] := by
  unfold gmR
  rw [List.range_succ, List.map_append]
  rfl
theorem gmR_len (xs : List Int) (a m : Nat) : (gmR xs a m).length = m := by simp [gmR]
/-- the first players' games -/
def gmL (xs : List Int) (n : Nat) : Nat → List UInt8
  | 0 => []
  | k + 1 => gmL xs n k ++ gmR xs k (n - (k + 1))
/-- how many these are -/
def gmP (n : Nat) : Nat → Nat
  | 0 => 0
  | k + 1 => gmP n k + (n - (k + 1))
theorem gmL_len (xs : List Int) (n : Nat) : ∀ k, (gmL xs n k).length = gmP n k
  | 0 => rfl
  | k + 1 => by rw [gmL, gmP, List.length_append, gmR_len, gmL_len xs n k]
theorem gmP_val (n : Nat) : ∀ k, k ≤ n → 2 * gmP n k + k * k + k = 2 * (n * k)
  | 0, _ => by simp [gmP]
  | k + 1, h => by
    have ih := gmP_val n k (by omega)
    rw [gmP]
    simp only [Nat.mul_add, Nat.add_mul, Nat.mul_one, Nat.one_mul]
    omega
theorem gmP_full (n : Nat) : 2 * gmP n n + n = n * n := by have := gmP_val n n (Nat.le_refl n); omega
theorem gmP_mono {n : Nat} : ∀ {k m : Nat}, k ≤ m → gmP n k ≤ gmP n m
  | k, 0, h => by obtain rfl : k = 0 := by omega
                  exact Nat.le_refl _
  | k, m + 1, h => by
    by_cases e : k = m + 1
    · subst e; exact Nat.le_refl _
    · have := gmP_mono (n := n) (k := k) (m := m) (by omega)
      rw [gmP]; omega
theorem gmP_lt {n a b : Nat} (hab : a < b) (hb : b < n) : gmP n a + (b - (a + 1)) < gmP n n := by
  have := gmP_mono (n := n) (k := a + 1) (m := n) (by omega)
  rw [gmP] at this
  omega
theorem gmL_pre (xs : List Int) (n : Nat) {k : Nat} : ∀ {m : Nat}, k ≤ m → ∃ suf, gmL xs n m = gmL xs n k ++ suf
  | 0, h => by obtain rfl : k = 0 := by omega
               exact ⟨[], by simp⟩
  | m + 1, h => by
    by_cases e : k = m + 1
    · subst e; exact ⟨[], by simp⟩
    · obtain ⟨s, hs⟩ := gmL_pre xs n (k := k) (m := m) (by omega)
      exact ⟨s ++ gmR xs m (n - (m + 1)), by rw [gmL, hs, List.append_assoc]⟩
theorem gmL_at (xs : List Int) {n a b : Nat} (hab : a < b) (hb : b < n) : (gmL xs n n).getD (gmP n a + (b - (a + 1))) 0 = gmB xs a b := by
  obtain ⟨s, hs⟩ := gmL_pre xs n (k := a + 1) (m := n) (by omega)
  rw [hs, gmL, List.append_assoc, List.getD_eq_getElem?_getD, List.getElem?_append_right (by rw [gmL_len]; omega), gmL_len, List.getElem?_append_left (by rw [gmR_len]; omega)]
  unfold gmR
  simp only [List.getElem?_map, List.getElem?_range (show gmP n a + (b - (a + 1)) - gmP n a < n - (a + 1) by omega), Option.map_some, Option.getD_some]
  congr 1
  omega
/-- the whole text -/
def fmL (xs : List Int) (n : Nat) : List UInt8 := UInt8.ofNat (48 + n) :: 58 :: gmL xs n n
theorem fmL_len (xs : List Int) (n : Nat) : (fmL xs n).length = 2 + gmP n n := by
  unfold fmL
  rw [List.length_cons, List.length_cons, gmL_len]
  omega
/-- two tours with the same results are one -/
theorem tour_ext (hp : tourP n xs) (hq : tourP n ys) (h : ∀ a b, a < b → b < n → bt xs a b = bt ys a b) : xs = ys := by
  have hb : ∀ a b, a < n → b < n → bt xs a b = bt ys a b := fun a b ha hb => by
    rcases Nat.lt_trichotomy a b with e | e | e
    · exact h a b e hb
    · subst e; rw [(tr_bit hp ha ha).1 rfl, (tr_bit hq ha ha).1 rfl]
    · rw [(tr_bit hp ha hb).2 (by omega), (tr_bit hq ha hb).2 (by omega), h b a e ha]
  refine list_ext0 (tour_len hp) (tour_len hq) fun i hi => ?_
  have h1 := tour_wins hp (a := i) (by rw [tour_len hp]; exact hi)
  have h2 := tour_wins hq (a := i) (by rw [tour_len hq]; exact hi)
  rw [h1.1, h2.1]
  rw [show ((n : Int)).toNat = n from rfl] at h1 h2
  congr 1
  refine Nat.eq_of_testBit_eq fun j => ?_
  by_cases hj : j < n
  · exact hb i j hi hj
  · have hpow : 2 ^ n ≤ 2 ^ j := Nat.pow_le_pow_right (by decide) (by omega)
    rw [Nat.testBit_lt_two_pow (by omega), Nat.testBit_lt_two_pow (by omega)]
theorem gmL_inj (hp : tourP n xs) (hq : tourP n ys) (h : gmL xs n n = gmL ys n n) : xs = ys :=
  tour_ext hp hq fun a b hab hb => by
    have e := gmL_at xs hab hb
    rw [h, gmL_at ys hab hb] at e
    unfold gmB at e
    rcases p : bt xs a b with _ | _ <;> rcases q : bt ys a b with _ | _ <;> rw [p, q] at e <;> first | rfl | (exact absurd e (by decide))
theorem fmL_inj (hp : tourP n xs) (hq : tourP n ys) (h : fmL xs n = fmL ys n) : xs = ys := by
  unfold fmL at h
  exact gmL_inj hp hq (by simpa using h)
/-! a tour that is read out of its text -/
def hfQ (xs : List Int) (a b x y : Nat) : Bool := bt xs x y && decide ((x < a ∨ y < a) ∨ (x = a ∧ y < b) ∨ (y = a ∧ x < b))
def hfL (xs : List Int) (n a b : Nat) : List Int := (List.range n).map fun x => ((setOf (hfQ xs a b x) n : Nat) : Int)
theorem hfL_len (xs : List Int) (n a b : Nat) : (hfL xs n a b).length = n := by simp [hfL]
theorem hfL_at (xs : List Int) {n a b x : Nat} (hx : x < n) : (hfL xs n a b).getD x 0 = ((setOf (hfQ xs a b x) n : Nat) : Int) := by simp [hfL, hx]
theorem hf_start (hp : tourP n xs) : hfL xs n 0 1 = List.replicate n 0 :=
  list_ext0 (hfL_len _ _ _ _) (by simp) fun i hi => by
    rw [hfL_at xs hi, setOf_congr (q := fun _ => false) (fun j hj => ?_)]
    · have : setOf (fun _ => false) n = 0 := by
        refine Nat.eq_of_testBit_eq fun j => ?_
        rw [testBit_setOf]; simp
      rw [this]; simp [hi]
    · unfold hfQ
      by_cases e : i = j
      · subst e; rw [(tr_bit hp hi hi).1 rfl]; rfl
      · rw [decide_eq_false (by omega), Bool.and_false]
theorem hf_row (hp : tourP n xs) (a : Nat) : hfL xs n a n = hfL xs n (a + 1) (a + 2) :=
  list_ext0 (hfL_len _ _ _ _) (hfL_len _ _ _ _) fun i hi => by
    rw [hfL_at xs hi, hfL_at xs hi, setOf_congr (q := hfQ xs (a + 1) (a + 2) i) (fun j hj => ?_)]
    unfold hfQ
    by_cases e : i = j
    · subst e; rw [(tr_bit hp hi hi).1 rfl]; rfl
    · congr 1
      exact decide_eq_decide.2 (by omega)
theorem hf_end (hp : tourP n xs) (b : Nat) : hfL xs n n b = xs :=
  list_ext0 (hfL_len _ _ _ _) (tour_len hp) fun i hi => by
    have h1 := tour_wins hp (a := i) (by rw [tour_len hp]; exact hi)
    rw [hfL_at xs hi, h1.1]
    rw [show ((n : Int)).toNat = n from rfl] at h1
    congr 1
    refine (setOf_eq fun j => ?_).symm
    unfold hfQ
    rw [decide_eq_true (show (i < n ∨ j < n) ∨ (i = n ∧ j < b) ∨ (j = n ∧ i < b) by omega), Bool.and_true]
    by_cases hj : j < n
    · rw [decide_eq_true hj, Bool.true_and]; try rfl
    · have hpow : 2 ^ n ≤ 2 ^ j := Nat.pow_le_pow_right (by decide) (by omega)
      rw [Nat.testBit_lt_two_pow (by omega), decide_eq_false hj, Bool.false_and]
theorem hf_step (hp : tourP n xs) {a b u v : Nat} (hab : a < b) (hb : b < n) (huv : (u = a ∧ v = b) ∨ (u = b ∧ v = a)) (hw : bt xs u v = true) :
    hfL xs n a (b + 1) = (hfL xs n a b).set u (((setOf (hfQ xs a b u) n ||| 2 ^ v : Nat)) : Int) ∧ setOf (hfQ xs a b u) n ||| 2 ^ v < 2 ^ n := by
  have hu : u < n := by omega
  have hv : v < n := by omega
  have hne : u ≠ v := by omega
  have hl : bt xs v u = false := by
    have := (tr_bit hp hu hv).2 hne
    rw [hw] at this
    simpa using this.symm
  refine ⟨?_, Nat.or_lt_two_pow (setOf_lt _ _) (Nat.pow_lt_pow_right (by decide) hv)⟩
  refine list_ext0 (hfL_len _ _ _ _) (by simp [hfL_len]) fun i hi => ?_
  rw [hfL_at xs hi]
  by_cases e : i = u
  · subst e
    rw [getD_set_same _ (by rw [hfL_len]; exact hi)]
    congr 1
    refine (setOf_eq fun j => ?_).symm
    rw [Nat.testBit_or, testBit_setOf, Nat.testBit_two_pow]
    by_cases ej : v = j
    · subst ej
      unfold hfQ
      rw [decide_eq_true hv, hw, decide_eq_true (show (i < a ∨ v < a) ∨ (i = a ∧ v < b + 1) ∨ (v = a ∧ i < b + 1) by omega)]
      simp
    · rw [decide_eq_false ej, Bool.or_false]
      by_cases hj : j < n
      · congr 1
        unfold hfQ
        congr 1
        exact decide_eq_decide.2 (by omega)
      · rw [decide_eq_false hj, Bool.false_and, Bool.false_and]
  · rw [getD_set_other _ (Ne.symm e), hfL_at xs hi, setOf_congr (q := hfQ xs a b i) (fun j hj => ?_)]
    unfold hfQ
    by_cases ei : i = v ∧ j = u
    · obtain ⟨rfl, rfl⟩ := ei
      rw [hl]; rfl
    · congr 1
      exact decide_eq_decide.2 (by omega)
end
end Go.Proofs.YthoodjjjklbggaaDoor

namespace Go.Proofs.YthoodjjjklbggaaDoor
open Go.RowKit Go.Sort
set_option maxRecDepth 100000
def digV (c : Nat) (l : List UInt8) : Nat := l.foldl (fun c d => 2 * c + if d = 49 then 1 else 0) c
theorem digV_lt : ∀ (l m : List UInt8) (c : Nat), l.length = m.length → ∀ d, c < d → digV c l < digV d m
  | [], m, c, h, d, hc => by
    obtain rfl : m = [] := List.eq_nil_of_length_eq_zero h.symm
    exact hc
  | x :: l, y :: m, c, h, d, hc => by
    refine digV_lt l m _ (by simpa using h) _ ?_
    show 2 * c + (if x = 49 then 1 else 0) < 2 * d + (if y = 49 then 1 else 0)
    split <;> split <;> omega
theorem digV_less : ∀ (l m : List UInt8) (c : Nat), (∀ x ∈ l, x = 48 ∨ x = 49) → (∀ x ∈ m, x = 48 ∨ x = 49) → l.length = m.length → digV c l < digV c m → Op.bytesLess l m = true
  | [], m, c, _, _, h, hc => by
    obtain rfl : m = [] := List.eq_nil_of_length_eq_zero h.symm
    exact absurd hc (Nat.lt_irrefl _)
  | x :: l, y :: m, c, h1, h2, h, hc => by
    have hl : l.length = m.length := by simpa using h
    have hx := h1 x (by simp)
    have hy := h2 y (by simp)
    have step : ∀ e, (digV (2 * c + e) l < digV (2 * c + e) m) → Op.bytesLess l m = true := fun e he => digV_less l m _ (fun z hz => h1 z (by simp [hz])) (fun z hz => h2 z (by simp [hz])) hl he
    have hc' : digV (2 * c + if x = 49 then 1 else 0) l < digV (2 * c + if y = 49 then 1 else 0) m := hc
    unfold Op.bytesLess
    rcases hx with rfl | rfl <;> rcases hy with rfl | rfl
    · simp only [Bool.or_eq_true, Bool.and_eq_true]
      exact .inr ⟨by decide, step _ hc'⟩
    · simp only [Bool.or_eq_true]
      exact .inl (by decide)
    · have := digV_lt m l (2 * c + if (48 : UInt8) = 49 then 1 else 0) hl.symm (2 * c + if (49 : UInt8) = 49 then 1 else 0) (by simp)
      omega
    · simp only [Bool.or_eq_true, Bool.and_eq_true]
      exact .inr ⟨by decide, step _ hc'⟩
theorem gm_dig (xs : List Int) (n : Nat) : ∀ k, ∀ x ∈ gmL xs n k, x = 48 ∨ x = 49
  | 0, x, hx => by cases hx
  | k + 1, x, hx => by
    rw [gmL, List.mem_append] at hx
    rcases hx with hx | hx
    · exact gm_dig xs n k x hx
    · unfold gmR at hx
      rw [List.mem_map] at hx
      obtain ⟨i, -, rfl⟩ := hx
      unfold gmB
      split <;> simp
theorem digV_bound : ∀ (l : List UInt8) (c : Nat), digV c l < (c + 1) * 2 ^ l.length
  | [], c => by simp [digV]
  | x :: l, c => by
    have h := digV_bound l (2 * c + if x = 49 then 1 else 0)
    have e : (2 * c + (if x = 49 then 1 else 0) + 1) * 2 ^ l.length ≤ (c + 1) * 2 ^ (l.length + 1) := by
      rw [Nat.pow_succ, Nat.mul_comm (2 ^ l.length) 2, ← Nat.mul_assoc]
      exact Nat.mul_le_mul_right _ (by split <;> omega)
    exact Nat.lt_of_lt_of_le h e
theorem digV_inj : ∀ (l m : List UInt8) (c : Nat), (∀ x ∈ l, x = 48 ∨ x = 49) → (∀ x ∈ m, x = 48 ∨ x = 49) → l.length = m.length → digV c l = digV c m → l = m
  | [], m, c, _, _, h, _ => (List.eq_nil_of_length_eq_zero h.symm).symm
  | x :: l, y :: m, c, h1, h2, h, hc => by
    have hl : l.length = m.length := by simpa using h
    have hx := h1 x (by simp)
    have hy := h2 y (by simp)
    have hc' : digV (2 * c + if x = 49 then 1 else 0) l = digV (2 * c + if y = 49 then 1 else 0) m := hc
    have step : ∀ e, digV (2 * c + e) l = digV (2 * c + e) m → l = m := fun e he => digV_inj l m _ (fun z hz => h1 z (by simp [hz])) (fun z hz => h2 z (by simp [hz])) hl he
    rcases hx with rfl | rfl <;> rcases hy with rfl | rfl
    · rw [step _ hc']
    · have := digV_lt l m (2 * c + if (48 : UInt8) = 49 then 1 else 0) hl (2 * c + if (49 : UInt8) = 49 then 1 else 0) (by simp)
      omega
    · have := digV_lt m l (2 * c + if (48 : UInt8) = 49 then 1 else 0) hl.symm (2 * c + if (49 : UInt8) = 49 then 1 else 0) (by simp)
      omega
    · rw [step _ hc']
end Go.Proofs.YthoodjjjklbggaaDoor

namespace Go.Proofs.YthoodjjjklbggaaDoor
open Go.RowKit Go.Sort
set_option maxRecDepth 100000
section
variable {n : Nat} {xs : List Int}
theorem symP_iff {r : Nat → Nat → Bool} {q : List Nat} : ((List.range n).all fun a => (List.range n).all fun b => r (q.getD a 0) (q.getD b 0) == r a b) = true ↔ ∀ a b, a < n → b < n → r (q.getD a 0) (q.getD b 0) = r a b := by
  simp only [List.all_eq_true, List.mem_range, beq_iff_eq]
  exact ⟨fun h a b ha hb => h a ha b hb, fun h a ha b hb => h a b ha hb⟩
theorem symT_congr {r s : Nat → Nat → Bool} (h : ∀ a b, a < n → b < n → r a b = s a b) : symT r n = symT s n := by
  unfold symT
  refine List.countP_congr fun q hq => ?_
  have hq1 := (ord_at hq).1
  rw [symP_iff, symP_iff]
  constructor
  · intro h1 a b ha hb
    rw [← h _ _ (hq1 a ha) (hq1 b hb), ← h a b ha hb]; exact h1 a b ha hb
  · intro h1 a b ha hb
    rw [h _ _ (hq1 a ha) (hq1 b hb), h a b ha hb]; exact h1 a b ha hb
theorem nmI {q : List Nat} (hq : q ∈ ordL n) {a : Nat} (ha : a < n) : nmN (nI q) a = q.getD a 0 := by
  unfold nmN
  rw [nI_getD (by rw [(mem_ordL.1 hq).1]; exact ha)]
  simp
theorem sym_cnt (hp : tourP n xs) : cntL xs (ordL n) = symT (bt xs) n := by
  have hln := tour_len hp
  unfold cntL symT
  rw [← List.countP_eq_length_filter]
  refine List.countP_congr fun q hq => ?_
  have hP : PermP n (nI q) := perm_nI.2 hq
  rw [decide_eq_true_eq, symP_iff]
  constructor
  · intro h a b ha hb
    have := rn_bit hln hP ha hb
    rw [← h, nmI hq ha, nmI hq hb] at this
    exact this
  · intro h
    have hb := tour_bits hp
    rw [hln] at hb
    refine rn_of hln hP hln hb.1 fun p k hpn hk => ?_
    rw [nmI hq hpn, nmI hq hk]
    exact h p k hpn hk
/-- a renamed tour has as many symmetries -/
theorem symT_map {r s : Nat → Nat → Bool} {ns : List Int} (hP : PermP n ns) (h : ∀ a b, a < n → b < n → s (nmN ns a) (nmN ns b) = r a b) : symT s n = symT r n := by
  unfold symT
  have hf := fun a (ha : a < n) => (nm_val hP ha).2
  have hi := fun a (ha : a < n) => inv_spec hP ha
  have hg : ∀ q, q ∈ ordL n → ∀ a, a < n → (((List.range n).map fun a => nmN ns (q.getD (invF n ns a) 0))).getD a 0 = nmN ns (q.getD (invF n ns a) 0) := fun q _ a ha => by simp [List.getD_eq_getElem?_getD, ha]
  rw [ord_turn (g := fun q => (List.range n).map fun a => nmN ns (q.getD (invF n ns a) 0))]
  · refine List.countP_congr fun q hq => ?_
    obtain ⟨q1, q2, q3⟩ := ord_at hq
    rw [symP_iff, symP_iff]
    constructor
    · intro h1 a b ha hb
      have := h1 (nmN ns a) (nmN ns b) (hf a ha) (hf b hb)
      rw [hg q hq _ (hf a ha), hg q hq _ (hf b hb), inv_nm hP ha, inv_nm hP hb, h _ _ (q1 a ha) (q1 b hb), h a b ha hb] at this
      exact this
    · intro h1 a b ha hb
      rw [hg q hq a ha, hg q hq b hb, h _ _ (q1 _ (hi a ha).1) (q1 _ (hi b hb).1), h1 _ _ (hi a ha).1 (hi b hb).1, ← h _ _ (hi a ha).1 (hi b hb).1, (hi a ha).2, (hi b hb).2]
  · intro q hq
    obtain ⟨q1, q2, q3⟩ := ord_at hq
    exact names_ord (fun i hi' => hf _ (q1 _ (hi i hi').1)) fun i k hi' hk' e => by
      have e1 := q2 _ _ (hi i hi').1 (hi k hk').1 (nm_inj hP (q1 _ (hi i hi').1) (q1 _ (hi k hk').1) e)
      have := (hi i hi').2
      rw [e1, (hi k hk').2] at this
      exact this.symm
  · intro q hq m hm e
    have l1 := (mem_ordL.1 hq).1
    have l2 := (mem_ordL.1 hm).1
    obtain ⟨q1, q2, q3⟩ := ord_at hq
    obtain ⟨m1, m2, m3⟩ := ord_at hm
    refine List.ext_getElem (by omega) fun i h1 h2 => ?_
    have hi' : i < n := by omega
    have ea : ∀ a, a < n → q.getD (invF n ns a) 0 = m.getD (invF n ns a) 0 := fun a ha => by
      have := congrArg (fun l : List Nat => l.getD a 0) e
      rw [hg q hq a ha, hg m hm a ha] at this
      exact nm_inj hP (q1 _ (hi a ha).1) (m1 _ (hi a ha).1) this
    have := ea (nmN ns i) (hf i hi')
    rw [inv_nm hP hi'] at this
    simpa [List.getD_eq_getElem?_getD, h1, h2] using this
theorem kind_syms : ∀ n, n < 6 → ((List.range (rc n)).all fun j => symT (bN (rp n j)) n % 2 == 1) = true := by decide +kernel
theorem sym_odd (hp : tourP n xs) (h5 : n ≤ 5) : cntL xs (ordL n) % 2 = 1 := by
  have h1 : 1 ≤ n := by have := hp.1; omega
  rw [sym_cnt hp]
  obtain ⟨j, hj, q, hq, rfl⟩ := kind_of hp (by omega)
  have hP : PermP n (nI q) := perm_nI.2 hq
  rw [symT_map (r := bt (rpL n j)) hP (fun a b ha hb => rn_bit (rpL_len n j) hP ha hb), symT_congr (fun a b ha hb => rpL_bt ha (by omega))]
  have := List.all_eq_true.1 (kind_syms n (by omega)) j (List.mem_range.2 hj)
  rwa [beq_iff_eq] at this
theorem sym_rn (hp : tourP n xs) {ns : List Int} (hP : PermP n ns) : cntL (rnL xs ns) (ordL n) = cntL xs (ordL n) := by
  have hl := tour_len hp
  rw [sym_cnt hp, sym_cnt (rn_tour hp (by rw [hl]; exact hP))]
  exact symT_map hP (fun a b ha hb => rn_bit hl hP ha hb)
theorem sym_rot {L : List Int} (h : connP n L) (h5 : n < 6) : cntL (rotT L n) (ordL n) % n = 0 := by
  rw [sym_cnt (rot_tour h), symT_congr (s := rotR L n) (fun a b ha hb => rot_bt ha hb)]
  exact rot_sym_all n h5 L (conn_cases h)
/-! least names -/
theorem symB6_yes (hp : tourP n xs) (h6 : n ≤ 6) : symB6 n xs = true := by
  unfold symB6
  rw [tourB_true.2 hp, decide_eq_true (by omega)]; rfl
theorem ln_tour (hp : tourP n xs) (h6 : n ≤ 6) : tourP n (lnL n xs) ∧ isLeast xs (lnL n xs) := by
  have h := (lnL_is (symB6_yes hp h6)).2.2
  obtain ⟨⟨ns, hP, e⟩, -⟩ := id h
  exact ⟨by rw [e]; exact rn_tour hp hP, h⟩
theorem ln_rn (hp : tourP n xs) (h6 : n ≤ 6) {ns : List Int} (hP : PermP n ns) : lnL n (rnL xs ns) = lnL n xs := by
  have hl := tour_len hp
  have hr : tourP n (rnL xs ns) := rn_tour hp (by rw [hl]; exact hP)
  exact ((least_like hp hr (ln_tour hp h6).2 (ln_tour hr h6).2).2 ⟨ns, by rw [hl]; exact hP, rfl⟩).symm
theorem ln_ln (hp : tourP n xs) (h6 : n ≤ 6) : lnL n (lnL n xs) = lnL n xs := by
  obtain ⟨⟨ns, hP, e⟩, -⟩ := (ln_tour hp h6).2
  rw [tour_len hp] at hP
  have := ln_rn hp h6 hP
  rwa [← e] at this
theorem like_rn (hp : tourP n xs) (h6 : n ≤ 6) {ns : List Int} (hP : PermP n ns) : likeB n xs n (rnL xs ns) = true := by
  have hr : tourP n (rnL xs ns) := rn_tour hp (by rw [tour_len hp]; exact hP)
  unfold likeB
  rw [symB6_yes hp h6, symB6_yes hr h6, ln_rn hp h6 hP]
  simp
theorem like_ln (hp : tourP n xs) (h6 : n ≤ 6) : likeB n (lnL n xs) n xs = true := by
  unfold likeB
  rw [symB6_yes hp h6, symB6_yes (ln_tour hp h6).1 h6, ln_ln hp h6]
  simp
/-! texts -/
theorem cdRow_dig (xs : List Int) (a : Nat) : ∀ k b c, cdRow xs a k b c = digV c ((List.range k).map fun i => gmB xs a (b + i))
  | 0, b, c => rfl
  | k + 1, b, c => by
    rw [cdRow, cdRow_dig xs a k (b + 1), List.range_succ_eq_map, List.map_cons, List.map_map]
    have e : (if gmB xs a (b + 0) = 49 then 1 else 0) = (bt xs a b).toNat := by
      unfold gmB
      rw [Nat.add_zero]
      cases bt xs a b <;> rfl
    show _ = digV (2 * c + if gmB xs a (b + 0) = 49 then 1 else 0) _
    rw [e]
    congr 1
    refine List.map_congr_left fun i _ => ?_
    show gmB xs a (b + 1 + i) = gmB xs a (b + (i + 1))
    rw [show b + 1 + i = b + (i + 1) by omega]
theorem code_dig (xs : List Int) (n : Nat) : ∀ k, k ≤ n → cdAll xs n (n - k) k (digV 0 (gmL xs n k)) = cdAll xs n n 0 0
  | 0, _ => rfl
  | k + 1, h => by
    rw [← code_dig xs n k (by omega), show n - k = (n - (k + 1)) + 1 by omega, cdAll, cdRow_dig]
    congr 1
    rw [gmL]
    unfold digV
    rw [List.foldl_append]
    rfl
theorem code_val (hp : tourP n xs) : codeN xs = digV 0 (gmL xs n n) := by
  unfold codeN
  rw [tour_len hp, ← code_dig xs n n (Nat.le_refl _), Nat.sub_self]
  rfl
theorem fm_leq {ys : List Int} (hp : tourP n xs) (hq : tourP n ys) (h : codeN xs ≤ codeN ys) : (Op.bytesLess (fmL xs n) (fmL ys n) || fmL xs n == fmL ys n) = true := by
  rw [Bool.or_eq_true, beq_iff_eq]
  by_cases e : codeN xs = codeN ys
  · exact .inr (by rw [code_inj hp hq e])
  · left
    unfold fmL
    have hl := digV_less (gmL xs n n) (gmL ys n n) 0 (gm_dig xs n n) (gm_dig ys n n) (by rw [gmL_len, gmL_len]) (by rw [← code_val hp, ← code_val hq]; omega)
    simp [Op.bytesLess, hl]
theorem ln_leq (hp : tourP n xs) (h6 : n ≤ 6) : (Op.bytesLess (fmL (lnL n xs) n) (fmL xs n) || fmL (lnL n xs) n == fmL xs n) = true := by
  obtain ⟨h1, h2⟩ := ln_tour hp h6
  refine fm_leq h1 hp ?_
  have := h2.2 (idL xs.length) (id_perm _)
  rwa [rn_id hp] at this
end
end Go.Proofs.YthoodjjjklbggaaDoor

namespace Go.Proofs.YthoodjjjklbggaaDoor
open Go.RowKit Go.Sort
set_option maxRecDepth 100000
section
variable {n : Nat} {xs : List Int} {sl : Value} {w : World}
theorem rename_ok (hp : tourP n xs) {q : List Int} (hq : PermP n q) : rnOk n xs q = true := by
  unfold rnOk
  rw [tourB_true.2 hp, permB_true.2 (by rw [tour_len hp]; exact hq)]; rfl
theorem cRename (hp : tourP n xs) (h : Rd w sl xs) {nv : Value} {q : List Int} (h2 : Rd w nv q) (hq : PermP n q) :
    Calls Tryd.prog 17 #[.agg #[.int .i64 n, sl], nv] w fun e w' => ∃ A c, e = .returned (.tuple #[.agg #[.int .i64 n, .slice A n c], .bool true]) ∧ Own w' w.heap.size (.slice A n c) (rnL xs q) ∧ Below w.heap.size w w' :=
  (implRename n sl xs nv q w h h2 (by rw [hq.1]; have := hp.1; omega)).mono fun e w' ⟨v, h1, h2, h3⟩ => by
    have ho := rename_ok hp hq
    rw [(rn_yes ho).1, ho] at h1
    rw [(rn_yes ho).2] at h2
    have hl : (rnL xs q).length = n := tour_len (rn_tour hp (by rw [tour_len hp]; exact hq))
    obtain ⟨A, c, rfl, -⟩ := h2.form
    rw [hl] at h1 h2
    exact ⟨A, c, h1, h2, h3⟩
end
end Go.Proofs.YthoodjjjklbggaaDoor

namespace Go.Proofs.YthoodjjjklbggaaDoor
open Go.RowKit Go.Sort
set_option maxRecDepth 100000

/-- those whom a beats by the first k connections -/
def rotK (xs : List Int) (n a k : Nat) : Nat := setOf (fun b => (xs.take k).any fun x => ((a : Int) + x) % n == (b : Int)) n
theorem rotK_zero (xs : List Int) (n a : Nat) : rotK xs n a 0 = 0 := Nat.eq_of_testBit_eq fun j => by simp [rotK, testBit_setOf]
theorem conn_at {n : Nat} {xs : List Int} (hp : connP n xs) {j : Nat} (hj : j < xs.length) : 1 ≤ xs.getD j 0 ∧ xs.getD j 0 ≤ n - 1 := (hp.2.1 j hj).1
theorem conn_lt {n : Nat} {xs : List Int} (hp : connP n xs) {k : Nat} (hk : k < xs.length) : ∀ i, i < k → xs.getD i 0 < xs.getD k 0 := by
  induction k with
  | zero => intro i hi; omega
  | succ k ih =>
    intro i hi
    have h1 := (hp.2.1 (k + 1) hk).2.1 (by omega)
    rw [Nat.add_sub_cancel] at h1
    by_cases h : i = k
    · subst h; exact h1
    · have := ih (by omega) i (by omega); omega
theorem mem_take_at {xs : List Int} {k : Nat} (hk : k ≤ xs.length) {x : Int} (h : x ∈ xs.take k) : ∃ i, i < k ∧ xs.getD i 0 = x := by
  obtain ⟨i, hi, e⟩ := List.mem_iff_getElem.1 h
  have hl : i < k := by rw [List.length_take] at hi; omega
  refine ⟨i, hl, ?_⟩
  rw [List.getElem_take] at e
  rw [List.getD_eq_getElem?_getD, List.getElem?_eq_getElem (by omega)]
  exact e
theorem rot_inj {n a : Nat} {x y : Int} (hn : n = 1 ∨ n = 3 ∨ n = 5 ∨ n = 7) (hx : 1 ≤ x ∧ x ≤ n - 1) (hy : 1 ≤ y ∧ y ≤ n - 1) (h : ((a : Int) + x) % n = ((a : Int) + y) % n) : x = y := by
  rcases hn with rfl | rfl | rfl | rfl <;> omega
theorem take_snocI' {xs : List Int} {k : Nat} (hk : k < xs.length) : xs.take (k + 1) = xs.take k ++ [xs.getD k 0] := by
  rw [List.take_succ_eq_append_getElem hk, show xs.getD k 0 = xs[k] by simp [hk]]
/-- one connection more -/
theorem rotK_step {n : Nat} {xs : List Int} (hp : connP n xs) (hn : n = 1 ∨ n = 3 ∨ n = 5 ∨ n = 7) {a k t : Nat} (hk : k < xs.length) (ht : ((a : Int) + xs.getD k 0) % n = (t : Int)) (htn : t < n) :
    rotK xs n a (k + 1) = rotK xs n a k + 2 ^ t := by
  have hno : (rotK xs n a k).testBit t = false := by
    unfold rotK
    rw [testBit_setOf]
    rw [Bool.and_eq_false_iff]
    right
    rw [List.any_eq_false]
    intro x hx
    obtain ⟨i, hi, rfl⟩ := mem_take_at (by omega) hx
    intro e
    have e := beq_iff_eq.1 e
    have h1 := rot_inj hn (conn_at hp (by omega : i < xs.length)) (conn_at hp hk) (e.trans ht.symm)
    have h2 := conn_lt hp hk i hi
    omega
  have hlt : rotK xs n a k < 2 ^ 62 := Nat.lt_of_lt_of_le (setOf_lt _ n) (Nat.pow_le_pow_right (by decide) (by omega))
  rw [add_or hlt (by omega) hno]
  refine Nat.eq_of_testBit_eq fun j => ?_
  rw [Nat.testBit_or, Nat.testBit_two_pow]
  unfold rotK
  rw [testBit_setOf, testBit_setOf, take_snocI' hk, List.any_append, List.any_cons, List.any_nil, Bool.or_false, ht]
  by_cases hj : t = j
  · subst hj; simp [htn]
  · have : ((t : Int) == (j : Int)) = false := by simp; omega
    rw [this, Bool.or_false]; simp [hj]
theorem rotK_end {n : Nat} {xs : List Int} (hp : connP n xs) (hn : n = 1 ∨ n = 3 ∨ n = 5 ∨ n = 7) {a : Nat} (ha : a < n) : rotK xs n a xs.length = setOf (toQ (rotP xs n) a) n := by
  unfold rotK
  rw [List.take_length]
  refine setOf_congr fun b hb => ?_
  rw [Bool.eq_iff_iff]
  unfold toQ rotP containsI
  simp only [List.any_eq_true, beq_iff_eq, Bool.and_eq_true, Bool.not_eq_true', beq_eq_false_iff_ne, decide_eq_true_eq]
  constructor
  · rintro ⟨x, hx, e⟩
    obtain ⟨i, hi, rfl⟩ := List.mem_iff_getElem.1 hx
    have hc := conn_at hp hi
    have e2 : xs.getD i 0 = xs[i] := by simp [hi]
    rw [e2] at hc
    refine ⟨?_, ?_⟩
    · rintro rfl
      rcases hn with rfl | rfl | rfl | rfl <;> omega
    · have : ((b : Int) - a + n) % n = xs[i] := by rcases hn with rfl | rfl | rfl | rfl <;> omega
      rw [this]; exact hx
  · rintro ⟨hne, hm⟩
    refine ⟨_, hm, ?_⟩
    rcases hn with rfl | rfl | rfl | rfl <;> omega
/-- the rows that grow -/
def rkRow (xs N : List Int) (n a k : Nat) : Prop := ∀ i, i < n → N.getD i 0 = if i < a then ((setOf (toQ (rotP xs n) i) n : Nat) : Int) else if i = a then ((rotK xs n a k : Nat) : Int) else 0
theorem rkRow_start {xs : List Int} {n : Nat} : rkRow xs (List.replicate n 0) n 0 0 := fun i hi => by
  have : (List.replicate n (0 : Int)).getD i 0 = 0 := by simp [hi]
  rw [this, rotK_zero]; simp
theorem rkRow_next {xs N : List Int} {n a : Nat} (hp : connP n xs) (hn : n = 1 ∨ n = 3 ∨ n = 5 ∨ n = 7) (ha : a < n) (h : rkRow xs N n a xs.length) : rkRow xs N n (a + 1) 0 := fun i hi => by
  rw [h i hi, rotK_zero]
  by_cases h1 : i < a
  · rw [if_pos h1, if_pos (by omega)]
  · rw [if_neg h1]
    by_cases h2 : i = a
    · subst h2; rw [if_pos rfl, if_pos (by omega), rotK_end hp hn ha]
    · rw [if_neg h2, if_neg (by omega)]; simp
theorem rkRow_at {xs N : List Int} {n a k : Nat} (h : rkRow xs N n a k) (ha : a < n) : N.getD a 0 = ((rotK xs n a k : Nat) : Int) := by
  rw [h a ha, if_neg (by omega), if_pos rfl]
theorem rkRow_step {xs N : List Int} {n a k : Nat} {v : Int} (hl : N.length = n) (h : rkRow xs N n a k) (ha : a < n) (hv : v = ((rotK xs n a (k + 1) : Nat) : Int)) : rkRow xs (N.set a v) n a (k + 1) := fun i hi => by
  by_cases h2 : i = a
  · subst h2
    rw [getD_set_same _ (by omega), if_neg (by omega), if_pos rfl, hv]
  · rw [getD_set_other _ (Ne.symm h2), h i hi, if_neg h2, if_neg h2]
theorem rkRow_end {xs N : List Int} {n : Nat} (hl : N.length = n) (h : rkRow xs N n n 0) : N = rotT xs n :=
  list_ext0 hl (by rw [rotT, toL_len]) fun i hi => by
    rw [h i hi, if_pos hi]
    simp [rotT, toL, hi]
set_option maxHeartbeats 4000000 in
theorem specRot (n : Int) (v : Value) (xs : List Int) (w : World) (h : Rd w v xs) :
    Calls Tryd.prog 54 #[.int .i64 n, v] w fun e w' => ∃ sl', e = .returned (.tuple #[.agg #[.int .i64 (rtS n xs), sl'], .bool (connB n xs)]) ∧ Own w' w.heap.size sl' (rtL n xs) ∧ Below w.heap.size w w' := by
  obtain ⟨i0, hi, hz0, hz1, hz2⟩ := info_parts i64_info
  have HR := Lib.hid h
  obtain ⟨A, c, rfl, hlc, hmc, hc⟩ := h
  unfold maxLen at hmc
  have HC := Lib.hid hc
  clear hc
  have b0 := below_alloc1 w (.cells #[.int .i64 0, .slice none 0 0] 25)
  have t0 := BoxF.new w 0 (.slice none 0 0) 25
  have HB0 := Lib.hid b0
  have HT0 := Lib.hid t0
  clear b0 t0
  rcases q0 : connB n xs with _ | _
  · rw [(rt_no q0).1, (rt_no q0).2]
    go_enter Tryd.func54, Tryd.ntmps54
    go_wp2_with fail
    generalize w.alloc (.cells #[.int .i64 0, .slice none 0 0] 25) = w0 at *
    refine (specIsConnection n _ xs _ (HR.out.below HB0.out)).mono ?_
    rintro e wz ⟨rfl, rfl⟩
    rw [q0]
    have v0 := HT0.out.1.1
    have v1 := HT0.out.1.2
    have f0 := HT0.out.2 0
    have f1 := HT0.out.2 1
    have HBx := Lib.hid ((HB0.out.setCell (p := ⟨w.heap.size, 0, none⟩) (Nat.le_refl _) (.int .i64 0)).setCell (p := ⟨w.heap.size, 1, none⟩) (Nat.le_refl _) (.slice none 0 0))
    have R0 : Hid (((w0.setCell ⟨w.heap.size, 0, none⟩ (.int .i64 0)).setCell ⟨w.heap.size, 1, none⟩ (.slice none 0 0)).cell? ⟨w.heap.size, 0, none⟩ = some (.int .i64 0)) := (World.cell?_setCell_other _ _ _ _ (by simp)).trans (World.cell?_setCell_same _ _ _ v0)
    have R1 : Hid (((w0.setCell ⟨w.heap.size, 0, none⟩ (.int .i64 0)).setCell ⟨w.heap.size, 1, none⟩ (.slice none 0 0)).cell? ⟨w.heap.size, 1, none⟩ = some (.slice none 0 0)) := World.cell?_setCell_same _ _ _ ((World.cell?_setCell_other _ _ _ _ (by simp)).trans v1)
    go_wp2
    have r0 := R0.out
    have r1 := R1.out
    refine bodyPost_ret (v := .tuple #[.agg #[.int .i64 0, .slice none 0 0], .bool false]) (by simp only [results, Tryd.results54]; simp [go_sem, r0, r1]) rfl ⟨_, rfl, Own.nil_ _ _, HBx.out⟩
  · have hp := connB_iff.1 q0
    obtain ⟨n, rfl⟩ := Int.eq_ofNat_of_zero_le (show 0 ≤ n by have := hp.1; omega)
    have hm : n = 1 ∨ n = 3 ∨ n = 5 ∨ n = 7 := by have := hp.1; omega
    have hn1 : 1 ≤ n := by omega
    have hn8 : n ≤ 8 := by omega
    rw [(rt_yes q0).1, (rt_yes q0).2, show ((n : Int)).toNat = n from rfl]
    have HP0 := Lib.hid hp
    go_enter Tryd.func54, Tryd.ntmps54
    go_wp2_with fail
    generalize w.alloc (.cells #[.int .i64 0, .slice none 0 0] 25) = w0 at *
    refine (specIsConnection n _ xs _ (HR.out.below HB0.out)).mono ?_
    rintro e wz ⟨rfl, rfl⟩
    rw [q0]
    have hsz0 : w.heap.size + 1 ≤ w0.heap.size := HT0.out.gt
    generalize hq : xs.length = q at *
    have HQ := Lib.hid hq
    clear hq hp
    go_wp2_with (at_make; refine wpList_make_full _ rfl _ _ 23 rfl w0.heap.size 3 i0 (.int .i64 0) 1 Tryd.underlying23 hi hz0 hz1 _ _ _ _ n rfl rfl rfl rfl (by rw [hz2]; omega) (by unfold maxLen; omega) (Nat.le_refl _) ?_; intro w1 hown hg1; have hb1 : Below w0.heap.size w0 w1 := (Below.refl _ _).grown hg1 (Nat.le_refl _) (by simp); have HT1 := Lib.hid (HT0.out.below hb1); have HB1 := Lib.hid (Below.then HB0.out hb1); have HOWN := Lib.hid hown; have hsz1 := hb1.size; clear hown hg1 hb1)
    have hgl := (World.ownsRow.lt HOWN.out w0.heap.size rfl).2
    have bU := below_alloc1 w1 (.cells #[.int .i64 n, .slice (some ⟨w0.heap.size, 0, none⟩) n n] 25)
    have HU2 := Lib.hid (BoxF.new w1 n (.slice (some ⟨w0.heap.size, 0, none⟩) n n) 25)
    have HT2 := Lib.hid (HT1.out.below bU)
    have HB2 := Lib.hid (Below.then HB1.out bU)
    have HO2 : Hid (Own (w1.alloc (.cells #[.int .i64 n, .slice (some ⟨w0.heap.size, 0, none⟩) n n] 25)) w0.heap.size (.slice (some ⟨w0.heap.size, 0, none⟩) n n) (List.replicate n 0)) := by
      have ho := HOWN.out
      rw [ints_made'] at ho
      refine Own.below (w := w1) ?_ bU
      unfold Own
      rw [List.length_replicate]
      exact ho
    generalize w1.alloc (.cells #[.int .i64 n, .slice (some ⟨w0.heap.size, 0, none⟩) n n] 25) = w2 at *
    generalize hgt : w1.heap.size = gt at *
    generalize hgl' : w0.heap.size = gl at *
    have hgg : gl < gt := by omega
    have hwg : w.heap.size < gl := by omega
    clear bU HOWN HT1 HB1 HT0 HB0 hgt hgl' q0
    go_loopw [7] (fun i wr => ∃ (a : Nat) (N : List Int), a ≤ n ∧ i = .int .i64 a ∧ N.length = n ∧ Own wr gl (.slice (some ⟨gl, 0, none⟩) n n) N ∧ Hid (rkRow xs N n a 0) ∧ BoxF wr gt n (.slice (some ⟨gl, 0, none⟩) n n) ∧ BoxF wr w.heap.size 0 (.slice none 0 0) ∧ Below w.heap.size w wr) (fun i _ => n - (intOf i).toNat)
    case atStart => exact ⟨0, _, by omega, rfl, by simp, HO2.out, rkRow_start, HU2.out, HT2.out, HB2.out⟩
    case round =>
      obtain ⟨wa, rfl⟩ : ∃ x, x = wr := ⟨_, rfl⟩
      obtain ⟨a, N, ha, rfl, hNl, hown, HP, hu, ht, hb⟩ := hrel
      have HOa := Lib.hid hown
      have HUa := Lib.hid hu
      have HTa := Lib.hid ht
      have HBa := Lib.hid hb
      clear hown hu ht hb
      by_cases hlta : a < n
      · go_wp2
        go_loopw [26] (fun i wr => ∃ (k : Nat) (N : List Int), k ≤ q ∧ i = .int .i64 k ∧ N.length = n ∧ Own wr gl (.slice (some ⟨gl, 0, none⟩) n n) N ∧ Hid (rkRow xs N n a k) ∧ BoxF wr gt n (.slice (some ⟨gl, 0, none⟩) n n) ∧ BoxF wr w.heap.size 0 (.slice none 0 0) ∧ Below w.heap.size w wr) (fun i _ => q - (intOf i).toNat)
        case atStart => exact ⟨0, N, by omega, rfl, hNl, HOa.out, HP, HUa.out, HTa.out, HBa.out⟩
        case round =>
          obtain ⟨k, M, hkq, rfl, hMl, hown, HP2, hu, ht, hb⟩ := hrel
          have HO := Lib.hid hown
          have HU := Lib.hid hu
          have HT := Lib.hid ht
          have HB := Lib.hid hb
          clear hown hu ht hb
          by_cases hltk : k < q
          · obtain ⟨g, off, rfl, hg, hx⟩ := HC.out (by omega)
            have hkx : k < xs.length := by rw [HQ.out]; exact hltk
            have hxk := (HB.out.cell (p := ⟨g, off + k, none⟩) hg).trans (hx k hltk)
            have hcx := conn_at HP0.out hkx
            obtain ⟨t, htt⟩ := Int.eq_ofNat_of_zero_le (Int.emod_nonneg ((a : Int) + xs.getD k 0) (show (n : Int) ≠ 0 by omega))
            have htn : t < n := by have := Int.emod_lt_of_pos ((a : Int) + xs.getD k 0) (show (0 : Int) < n by omega); omega
            have hr : Int.tmod ((a : Int) + xs.getD k 0) n = (t : Int) := (Int.tmod_eq_emod_of_nonneg (by omega)).trans htt
            have HST := Lib.hid (rotK_step (a := a) HP0.out hm hkx htt htn)
            have za := (HO.out.at1 hMl (by omega)).1 a hlta
            rw [rkRow_at HP2.out hlta] at za
            have hS : rotK xs n a k < 256 := setOf_small _ (by omega)
            have hadd := add_shl (rotK xs n a k) t (by omega) (by omega)
            rw [← HST.out] at hadd
            have HADD := Lib.hid hadd
            generalize hX : rotK xs n a (k + 1) = X at *
            have HX := Lib.hid hX
            clear hx htt
            generalize xs.getD k 0 = x at *
            generalize rotK xs n a k = S at *
            go_wp2_with fail
            have c1 := cell_regrown HU.out.1.2
            have c2 := cell_regrown za
            clear za hX hxk
            refine wp_region_below_tail 16 (by kernel_rfl) (by kernel_rfl) ?_
            simp only [List.take_succ_cons, List.take_zero, List.drop_succ_cons, List.drop_zero]
            repeat (go_big_quiet_step (first | (with_reducible fail)))
            refine wpQuiet_nil ?_
            intro wq hbq0
            have hbq := Lib.hid hbq0
            clear hbq0
            clear c1 c2 hadd hr
            have O2 := HO.out.below hbq.out
            obtain ⟨hx2, hf2⟩ := O2.at1 hMl (by omega)
            have za := hx2 a hlta
            have fa := hf2 a
            have O3 := (O2.set_ hMl a (X : Int)).1
            have HO3 := Lib.hid O3
            have HU3 := Lib.hid ((HU.out.below hbq.out).kept (setCell_grown _ ⟨gl, a, none⟩ (.int .i64 X)) (by simp; omega))
            have HT3 := Lib.hid ((HT.out.below hbq.out).kept (setCell_grown _ ⟨gl, a, none⟩ (.int .i64 X)) (by simp; omega))
            have HB3 := Lib.hid ((Below.then HB.out hbq.out).setCell (p := ⟨gl, a, none⟩) (show w.heap.size ≤ gl by omega) (.int .i64 X))
            clear hx2 hf2 O2 O3 HO HU HT HB hbq
            go_wp2
            go_roundw
            case rel =>
              first | rw [HADD.out] | skip
              exact ⟨k + 1, M.set a X, by omega, by go_num, by simp [hMl], HO3.out, rkRow_step hMl HP2.out hlta (by rw [HX.out]), HU3.out, HT3.out, HB3.out⟩
            case measure => simp [intOf]; omega
          · obtain rfl : q = k := by omega
            have HRN : Hid (rkRow xs M n (a + 1) 0) := rkRow_next HP0.out hm hlta (by rw [HQ.out]; exact HP2.out)
            go_wp2
            go_roundw
            case rel => exact ⟨a + 1, M, by omega, by go_num, hMl, HO.out, HRN.out, HU.out, HT.out, HB.out⟩
            case measure => simp [intOf]; omega
      · obtain rfl : n = a := by omega
        have HE := Lib.hid (rkRow_end hNl HP.out)
        have u0 := HUa.out.1.1
        have u1 := HUa.out.1.2
        have v0 := HTa.out.1.1
        have v1 := HTa.out.1.2
        have f0 := HTa.out.2 0
        have f1 := HTa.out.2 1
        have hw2 := HUa.out.gt
        have hgg2 : gt ≠ w.heap.size := by omega
        have HOx := Lib.hid ((HOa.out.kept (setCell_grown _ ⟨w.heap.size, 0, none⟩ (.int .i64 n)) (own_ne (fun k hk => (HOa.out.lt k hk).1) hwg)).kept (setCell_grown _ ⟨w.heap.size, 1, none⟩ (.slice (some ⟨gl, 0, none⟩) n n)) (own_ne (fun k hk => (HOa.out.lt k hk).1) hwg))
        have HBx := Lib.hid ((HBa.out.setCell (p := ⟨w.heap.size, 0, none⟩) (Nat.le_refl _) (.int .i64 n)).setCell (p := ⟨w.heap.size, 1, none⟩) (Nat.le_refl _) (.slice (some ⟨gl, 0, none⟩) n n))
        have R0 : Hid (((wa.setCell ⟨w.heap.size, 0, none⟩ (.int .i64 n)).setCell ⟨w.heap.size, 1, none⟩ (.slice (some ⟨gl, 0, none⟩) n n)).cell? ⟨w.heap.size, 0, none⟩ = some (.int .i64 n)) := (World.cell?_setCell_other _ _ _ _ (by simp)).trans (World.cell?_setCell_same _ _ _ v0)
        have R1 : Hid (((wa.setCell ⟨w.heap.size, 0, none⟩ (.int .i64 n)).setCell ⟨w.heap.size, 1, none⟩ (.slice (some ⟨gl, 0, none⟩) n n)).cell? ⟨w.heap.size, 1, none⟩ = some (.slice (some ⟨gl, 0, none⟩) n n)) := World.cell?_setCell_same _ _ _ ((World.cell?_setCell_other _ _ _ _ (by simp)).trans v1)
        go_wp2
        have r0 := R0.out
        have r1 := R1.out
        refine bodyPost_ret (v := .tuple #[.agg #[.int .i64 n, .slice (some ⟨gl, 0, none⟩) n n], .bool true]) (by simp only [results, Tryd.results54]; simp [go_sem, r0, r1]) rfl ⟨_, rfl, ?_, HBx.out⟩
        rw [← HE.out]
        exact HOx.out.mono (by omega)
end Go.Proofs.YthoodjjjklbggaaDoor

namespace Go.Proofs.YthoodjjjklbggaaDoor
open Go.RowKit Go.Sort
set_option maxRecDepth 100000
noncomputable def sqS (p : Int) : Int := if p = 3 then rtS 3 [1] else if p = 7 then rtS 7 [1, 2, 4] else 0
noncomputable def sqL (p : Int) : List Int := if p = 3 then rtL 3 [1] else if p = 7 then rtL 7 [1, 2, 4] else []
noncomputable def sqOk (p : Int) : Bool := if p = 3 then connB 3 [1] else if p = 7 then connB 7 [1, 2, 4] else false
theorem sqL_len (p : Int) : (sqL p).length ≤ 8 := by
  unfold sqL
  repeat' split
  · exact rtL_len _ _
  · exact rtL_len _ _
  · simp
set_option maxHeartbeats 1000000 in
theorem implSquare (p : Int) (w : World) :
    Calls Tryd.prog 20 #[.int .i64 p] w fun e w' => ∃ sl', e = .returned (.tuple #[.agg #[.int .i64 (sqS p), sl'], .bool (sqOk p)]) ∧ Own w' w.heap.size sl' (sqL p) ∧ Below w.heap.size w w' := by
  have b0 := below_alloc1 w (.cells #[.int .i64 0, .slice none 0 0] 25)
  have t0 := BoxF.new w 0 (.slice none 0 0) 25
  have HB0 := Lib.hid b0
  have HT0 := Lib.hid t0
  clear b0 t0
  by_cases h3 : p = 3
  · subst h3
    have e1 : sqS 3 = rtS 3 [1] := by simp [sqS]
    have e2 : sqL 3 = rtL 3 [1] := by simp [sqL]
    have e3 : sqOk 3 = connB 3 [1] := by simp [sqOk]
    rw [e1, e2, e3]
    have bL := below_alloc1 (w.alloc (.cells #[.int .i64 0, .slice none 0 0] 25)) (.cells #[.int .i64 1] 3)
    have HR : Hid (Rd ((w.alloc (.cells #[.int .i64 0, .slice none 0 0] 25)).alloc (.cells #[.int .i64 1] 3)) (.slice (some ⟨w.heap.size + 1, 0, none⟩) 1 1) [1]) := by
      have := (Own.lit (w.alloc (.cells #[.int .i64 0, .slice none 0 0] 25)) w.heap.size [1] (by simp) (by simp)).rd
      simpa [Hid] using this
    have HT1 := Lib.hid (HT0.out.below bL)
    have HB1 := Lib.hid (Below.then HB0.out bL)
    clear bL
    go_enter Tryd.func20, Tryd.ntmps20
    go_wp2_with fail
    refine (implRot 3 (.slice (some ⟨w.heap.size + 1, 0, none⟩) 1 1) [1] ((w.alloc (.cells #[.int .i64 0, .slice none 0 0] 25)).alloc (.cells #[.int .i64 1] 3)) HR.out).mono ?_
    rintro e w1 ⟨sl', rfl, ho, hb1⟩
    obtain ⟨Y, cy, rfl, -, -, -⟩ := ho.form
    have hT1 := HT1.out.below hb1
    have hgt := HT1.out.gt
    have HB2 := Lib.hid (Below.then HB1.out hb1)
    have v0 := hT1.1.1
    have v1 := hT1.1.2
    have f0 := hT1.2 0
    have f1 := hT1.2 1
    clear hT1 hb1
    generalize hL : rtL 3 [1] = L at *
    generalize hS : rtS 3 [1] = S at *
    generalize hC : connB 3 [1] = C at *
    have HOx := Lib.hid ((ho.kept (setCell_grown _ ⟨w.heap.size, 0, none⟩ (.int .i64 S)) (own_ne (fun k hk => (ho.lt k hk).1) hgt)).kept (setCell_grown _ ⟨w.heap.size, 1, none⟩ (.slice Y L.length cy)) (own_ne (fun k hk => (ho.lt k hk).1) hgt))
    have HBx := Lib.hid ((HB2.out.setCell (p := ⟨w.heap.size, 0, none⟩) (Nat.le_refl _) (.int .i64 S)).setCell (p := ⟨w.heap.size, 1, none⟩) (Nat.le_refl _) (.slice Y L.length cy))
    have R0 : Hid (((w1.setCell ⟨w.heap.size, 0, none⟩ (.int .i64 S)).setCell ⟨w.heap.size, 1, none⟩ (.slice Y L.length cy)).cell? ⟨w.heap.size, 0, none⟩ = some (.int .i64 S)) := (World.cell?_setCell_other _ _ _ _ (by simp)).trans (World.cell?_setCell_same _ _ _ v0)
    have R1 : Hid (((w1.setCell ⟨w.heap.size, 0, none⟩ (.int .i64 S)).setCell ⟨w.heap.size, 1, none⟩ (.slice Y L.length cy)).cell? ⟨w.heap.size, 1, none⟩ = some (.slice Y L.length cy)) := World.cell?_setCell_same _ _ _ ((World.cell?_setCell_other _ _ _ _ (by simp)).trans v1)
    clear ho
    go_wp2
    have r0 := R0.out
    have r1 := R1.out
    refine bodyPost_ret (v := .tuple #[.agg #[.int .i64 S, .slice Y L.length cy], .bool C]) (by simp only [results, Tryd.results20]; simp [go_sem, r0, r1]) rfl ⟨_, by first | rfl | (rw [hS, hC]), by first | (rw [hL]; exact HOx.out.mono (Nat.le_of_lt hgt)) | exact HOx.out.mono (Nat.le_of_lt hgt), HBx.out⟩
  by_cases h7 : p = 7
  · subst h7
    have e1 : sqS 7 = rtS 7 [1, 2, 4] := by simp [sqS]
    have e2 : sqL 7 = rtL 7 [1, 2, 4] := by simp [sqL]
    have e3 : sqOk 7 = connB 7 [1, 2, 4] := by simp [sqOk]
    rw [e1, e2, e3]
    have bL := below_alloc1 (w.alloc (.cells #[.int .i64 0, .slice none 0 0] 25)) (.cells #[.int .i64 1, .int .i64 2, .int .i64 4] 3)
    have HR : Hid (Rd ((w.alloc (.cells #[.int .i64 0, .slice none 0 0] 25)).alloc (.cells #[.int .i64 1, .int .i64 2, .int .i64 4] 3)) (.slice (some ⟨w.heap.size + 1, 0, none⟩) 3 3) [1, 2, 4]) := by
      have := (Own.lit (w.alloc (.cells #[.int .i64 0, .slice none 0 0] 25)) w.heap.size [1, 2, 4] (by simp) (by simp)).rd
      simpa [Hid] using this
    have HT1 := Lib.hid (HT0.out.below bL)
    have HB1 := Lib.hid (Below.then HB0.out bL)
    clear bL
    go_enter Tryd.func20, Tryd.ntmps20
    go_wp2_with fail
    refine (implRot 7 (.slice (some ⟨w.heap.size + 1, 0, none⟩) 3 3) [1, 2, 4] ((w.alloc (.cells #[.int .i64 0, .slice none 0 0] 25)).alloc (.cells #[.int .i64 1, .int .i64 2, .int .i64 4] 3)) HR.out).mono ?_
    rintro e w1 ⟨sl', rfl, ho, hb1⟩
    obtain ⟨Y, cy, rfl, -, -, -⟩ := ho.form
    have hT1 := HT1.out.below hb1
    have hgt := HT1.out.gt
    have HB2 := Lib.hid (Below.then HB1.out hb1)
    have v0 := hT1.1.1
    have v1 := hT1.1.2
    have f0 := hT1.2 0
    have f1 := hT1.2 1
    clear hT1 hb1
    generalize hL : rtL 7 [1, 2, 4] = L at *
    generalize hS : rtS 7 [1, 2, 4] = S at *
    generalize hC : connB 7 [1, 2, 4] = C at *
    have HOx := Lib.hid ((ho.kept (setCell_grown _ ⟨w.heap.size, 0, none⟩ (.int .i64 S)) (own_ne (fun k hk => (ho.lt k hk).1) hgt)).kept (setCell_grown _ ⟨w.heap.size, 1, none⟩ (.slice Y L.length cy)) (own_ne (fun k hk => (ho.lt k hk).1) hgt))
    have HBx := Lib.hid ((HB2.out.setCell (p := ⟨w.heap.size, 0, none⟩) (Nat.le_refl _) (.int .i64 S)).setCell (p := ⟨w.heap.size, 1, none⟩) (Nat.le_refl _) (.slice Y L.length cy))
    have R0 : Hid (((w1.setCell ⟨w.heap.size, 0, none⟩ (.int .i64 S)).setCell ⟨w.heap.size, 1, none⟩ (.slice Y L.length cy)).cell? ⟨w.heap.size, 0, none⟩ = some (.int .i64 S)) := (World.cell?_setCell_other _ _ _ _ (by simp)).trans (World.cell?_setCell_same _ _ _ v0)
    have R1 : Hid (((w1.setCell ⟨w.heap.size, 0, none⟩ (.int .i64 S)).setCell ⟨w.heap.size, 1, none⟩ (.slice Y L.length cy)).cell? ⟨w.heap.size, 1, none⟩ = some (.slice Y L.length cy)) := World.cell?_setCell_same _ _ _ ((World.cell?_setCell_other _ _ _ _ (by simp)).trans v1)
    clear ho
    go_wp2
    have r0 := R0.out
    have r1 := R1.out
    refine bodyPost_ret (v := .tuple #[.agg #[.int .i64 S, .slice Y L.length cy], .bool C]) (by simp only [results, Tryd.results20]; simp [go_sem, r0, r1]) rfl ⟨_, by first | rfl | (rw [hS, hC]), by first | (rw [hL]; exact HOx.out.mono (Nat.le_of_lt hgt)) | exact HOx.out.mono (Nat.le_of_lt hgt), HBx.out⟩
  have e1 : sqS p = 0 := by simp [sqS, h3, h7]
  have e2 : sqL p = [] := by simp [sqL, h3, h7]
  have e3 : sqOk p = false := by simp [sqOk, h3, h7]
  rw [e1, e2, e3]
  have g3 : (p == 3) = false := by simp [h3]
  have g7 : (p == 7) = false := by simp [h7]
  have HBx := Lib.hid ((HB0.out.setCell (p := ⟨w.heap.size, 0, none⟩) (Nat.le_refl _) (.int .i64 0)).setCell (p := ⟨w.heap.size, 1, none⟩) (Nat.le_refl _) (.slice none 0 0))
  go_enter Tryd.func20, Tryd.ntmps20
  go_wp2
  refine bodyPost_ret (v := .tuple #[.agg #[.int .i64 0, .slice none 0 0], .bool false]) (by simp only [results, Tryd.results20]; simp [go_sem]) rfl ⟨_, rfl, Own.nil_ _ _, by first | exact HBx.out | exact HB0.out⟩
end Go.Proofs.YthoodjjjklbggaaDoor

namespace Go.Proofs.YthoodjjjklbggaaDoor
open Go.RowKit Go.Sort Go.MapKept
set_option maxRecDepth 100000
/-- the keys, in the order of their coming -/
def MapK (W : World) (r : Nat) (ks : List Int) : Prop := ∃ es clock, W.heap[r]? = some (.map es clock) ∧ Stamped es clock ∧ es.toList.map (·.key) = ks.map (Value.int .i64)
def insK (ks : List Int) (k : Int) : List Int := if k ∈ ks then ks else ks ++ [k]
theorem mapK_new (W : World) : MapK (W.alloc (.map #[] 0)) W.heap.size [] := ⟨#[], 0, (MapKept.heap_alloc W _).1, stamped_empty 0, rfl⟩
theorem mapK_update {P : Program} {W : World} {r : Nat} {ks : List Int} {mty kt et : TypeId} {d : TypeDesc} (h : MapK W r ks) (hm : P.underlying mty = some (.map kt et)) (hd : P.underlying kt = some d) (hk : ∀ k : Int, IsKey d (.int .i64 k)) (k : Int) (v : Value) :
    ∃ W', (Instr.mapUpdate mty (.map (some r)) (.int .i64 k) v).run P W = .ok () W' ∧ MapK W' r (insK ks k) ∧ W.grownBy W' (some r) := by
  obtain ⟨es, clock, hb, hs, hkeys⟩ := h
  have hks : ∀ x ∈ es.toList, IsKey d x.key := fun x hx => by
    have : x.key ∈ ks.map (Value.int .i64) := by rw [← hkeys]; exact List.mem_map_of_mem hx
    obtain ⟨y, -, e⟩ := List.mem_map.1 this
    rw [← e]; exact hk y
  have hmem : k ∈ ks ↔ ∃ x ∈ es.toList, x.key = .int .i64 k := by
    constructor
    · intro h
      have : Value.int .i64 k ∈ es.toList.map (·.key) := by rw [hkeys]; exact List.mem_map_of_mem h
      obtain ⟨x, hx, e⟩ := List.mem_map.1 this
      exact ⟨x, hx, e⟩
    · rintro ⟨x, hx, e⟩
      have : x.key ∈ ks.map (Value.int .i64) := by rw [← hkeys]; exact List.mem_map_of_mem hx
      obtain ⟨y, hy, e2⟩ := List.mem_map.1 this
      rw [e] at e2
      injection e2 with _ e2
      exact e2 ▸ hy
  have hg : ∀ o, W.grownBy { W with heap := W.heap.setIfInBounds r o } (some r) := fun o =>
    ⟨rfl, rfl, rfl, by simp, fun i hi hne => by
      have : r ≠ i := fun e => hne (by rw [e])
      simp [this]⟩
  rcases findNow_spec (hk k) es.toList 0 hks with ⟨h1, h2⟩ | ⟨j, e, h1, h2, h3⟩
  · refine ⟨_, by simp [Instr.mapUpdate, run_underlying hm, MapKept.run_getObj_map hb, run_checkKey hd (hk k), run_findKey hd h1, MapKept.run_setObj_map _ hb, Result.andThen]; rfl, ⟨_, _, (heap_set hb).1, stamped_push hs h2, ?_⟩, hg _⟩
    have hno : k ∉ ks := fun h => by obtain ⟨x, hx, e⟩ := hmem.1 h; exact h2 x hx e
    unfold insK
    rw [if_neg hno, Array.toList_push, List.map_append, hkeys, List.map_append]
    rfl
  · have hj : es[j]? = some e := by simpa using h2
    have hkey : ∀ e', es[j]? = some e' → ({ e' with key := .int .i64 k, val := v } : MapEntry).key = e'.key := fun e' he' => by rw [hj] at he'; cases he'; exact h3.symm
    refine ⟨_, by simp [Instr.mapUpdate, run_underlying hm, MapKept.run_getObj_map hb, run_checkKey hd (hk k), run_findKey hd h1, hj, h3, run_keyThatStays (hk k), MapKept.run_setObj_map _ hb, Result.andThen], ⟨es.modify j fun e => { e with key := .int .i64 k, val := v }, clock, (heap_set hb).1, stamped_modify hs _ _ (fun _ _ => rfl) (fun e' _ he' => hkey e' he'), ?_⟩, hg _⟩
    have hyes : k ∈ ks := hmem.2 ⟨e, List.mem_of_getElem? h2, h3⟩
    unfold insK
    rw [if_pos hyes, modify_keys _ _ hkey, hkeys]
end Go.Proofs.YthoodjjjklbggaaDoor

namespace Go.Proofs.YthoodjjjklbggaaDoor
open Go.RowKit Go.Sort
set_option maxRecDepth 100000
/-! a code by the results -/
def cfRow (f : Nat → Nat → Bool) (a : Nat) : Nat → Nat → Nat → Nat
  | 0, _, c => c
  | k + 1, b, c => cfRow f a k (b + 1) (2 * c + (f a b).toNat)
def cfAll (f : Nat → Nat → Bool) (n : Nat) : Nat → Nat → Nat → Nat
  | 0, _, c => c
  | k + 1, a, c => cfAll f n k (a + 1) (cfRow f a (n - (a + 1)) (a + 1) c)
theorem cfRow_eq {xs : List Int} {f : Nat → Nat → Bool} {a n : Nat} (h : ∀ b, b < n → bt xs a b = f a b) : ∀ k b c, b + k ≤ n → cdRow xs a k b c = cfRow f a k b c := by
  intro k
  induction k with
  | zero => intro b c _; rfl
  | succ k ih => intro b c hb; rw [cdRow, cfRow, h b (by omega)]; exact ih _ _ (by omega)
theorem cfAll_eq {xs : List Int} {f : Nat → Nat → Bool} {n : Nat} (h : ∀ a b, a < n → b < n → bt xs a b = f a b) : ∀ k a c, a + k ≤ n → cdAll xs n k a c = cfAll f n k a c := by
  intro k
  induction k with
  | zero => intro a c _; rfl
  | succ k ih =>
    intro a c ha
    rw [cdAll, cfAll, cfRow_eq (n := n) (fun b hb => h a b (by omega) hb) _ _ _ (by omega)]
    exact ih _ _ (by omega)
theorem code_eq {xs : List Int} {f : Nat → Nat → Bool} {n : Nat} (hn : xs.length = n) (h : ∀ a b, a < n → b < n → bt xs a b = f a b) : codeN xs = cfAll f n n 0 0 := by
  unfold codeN
  rw [hn]
  exact cfAll_eq h _ _ _ (by omega)
theorem kd_least_all : ∀ n, n < 6 → ((List.range (rc n)).all fun j => (ordL n).all fun q => Nat.ble (cfAll (bN (rp n j)) n n 0 0) (cfAll (fun a b => bN (rp n j) (q.getD a 0) (q.getD b 0)) n n 0 0)) = true := by decide +kernel
theorem kd_codes : ∀ n, n < 6 → ((List.range (rc n)).map fun j => cfAll (bN (rp n j)) n n 0 0).Nodup := by decide +kernel
def kdCode : Nat → List Nat
  | 1 => [0]
  | 2 => [0]
  | 3 => [0, 2]
  | 4 => [0, 16, 4, 36]
  | 5 => [0, 256, 64, 576, 8, 520, 264, 776, 72, 40, 552, 76]
  | _ => []
theorem kd_reach : ∀ n, n < 6 → 1 ≤ n → ∀ j, j < rc n → (kdCode n).getD j 0 < 2 ^ (n * (n - 1) / 2) ∧ allL n ((kdCode n).getD j 0) = rpL n j := by decide +kernel
theorem kd_is {n j : Nat} (h1 : 1 ≤ n) (h5 : n ≤ 5) (hj : j < rc n) : isLeast (rpL n j) (rpL n j) := by
  have hp := rpL_tour h1 (by omega) hj
  have hl := rpL_len n j
  refine ⟨⟨idL (rpL n j).length, id_perm _, (rn_id hp).symm⟩, fun ns hP => ?_⟩
  rw [hl] at hP
  obtain ⟨ms, hms, rfl⟩ := perm_of hP
  obtain ⟨q, hq, hqe⟩ : ∃ q ∈ ordL n, ∀ a, a < n → nmN (nI ms) (q.getD a 0) = a := by
    have hin := fun a (ha : a < n) => inv_spec hP ha
    have hg : ∀ a, a < n → ((List.range n).map fun a => invF n (nI ms) a).getD a 0 = invF n (nI ms) a := fun a ha => by simp [ha]
    refine ⟨(List.range n).map fun a => invF n (nI ms) a, mem_ordL.2 ⟨by simp, fun x hx => ?_, ?_⟩, fun a ha => by rw [hg a ha]; exact (hin a ha).2⟩
    · obtain ⟨a, ha, rfl⟩ := List.mem_map.1 hx
      exact (hin a (List.mem_range.1 ha)).1
    · refine List.pairwise_map.2 (List.Pairwise.imp_of_mem (fun {a b} ha hb hab e => ?_) (List.pairwise_lt_range (n := n)))
      have h3 := (hin a (List.mem_range.1 ha)).2
      have h4 := (hin b (List.mem_range.1 hb)).2
      rw [e] at h3
      omega
  have hqm : ∀ a, a < n → q.getD a 0 < n := fun a ha => (mem_ordL.1 hq).2.1 _ (by rw [getD_nat (by rw [(mem_ordL.1 hq).1]; exact ha)]; exact List.getElem_mem _)
  have e1 : codeN (rpL n j) = cfAll (bN (rp n j)) n n 0 0 := code_eq hl fun a b ha hb => rpL_bt ha (by omega)
  have e2 : codeN (rnL (rpL n j) (nI ms)) = cfAll (fun a b => bN (rp n j) (q.getD a 0) (q.getD b 0)) n n 0 0 := code_eq (rn_len hl hP) fun a b ha hb => by
    have := rn_bit hl hP (hqm a ha) (hqm b hb)
    rw [hqe a ha, hqe b hb] at this
    rw [this, rpL_bt (hqm a ha) (by have := hqm b hb; omega)]
  rw [e1, e2]
  have := List.all_eq_true.1 (List.all_eq_true.1 (kd_least_all n (by omega)) j (List.mem_range.2 hj)) q hq
  exact Nat.le_of_ble_eq_true this
/-- the least name of a tour is the tour of its kind -/
theorem ln_kind {n : Nat} {xs : List Int} (hp : tourP n xs) (h5 : n ≤ 5) : ∃ j, j < rc n ∧ lnL n xs = rpL n j := by
  have h1 : 1 ≤ n := by have := hp.1; omega
  obtain ⟨j, hj, q, hq, e⟩ := kind_of hp (by omega)
  have hL := (lnL_is (s := n) (xs := xs) (by simp [symB6, tourB_true.2 hp]; omega)).2.2
  exact ⟨j, hj, ((least_like (rpL_tour h1 (by omega) hj) hp (kd_is h1 h5 hj) hL).2 ⟨nI q, by rw [rpL_len]; exact perm_nI.2 hq, e.symm⟩).symm⟩
theorem ln_rep {n j : Nat} (h1 : 1 ≤ n) (h5 : n ≤ 5) (hj : j < rc n) : lnL n (rpL n j) = rpL n j := by
  have hp := rpL_tour h1 (by omega) hj
  have hL := (lnL_is (s := n) (xs := rpL n j) (by simp [symB6, tourB_true.2 hp]; omega)).2.2
  exact least_unique hp hL (kd_is h1 h5 hj)
/-! the keys -/
noncomputable def kdVal (n c : Nat) : Int := (codeN (lnL n (allL n c)) : Nat)
noncomputable def kdKeys (n : Nat) (l : List Nat) : List Int := l.foldl (fun ks c => insK ks (kdVal n c)) []
theorem kd_snoc (n : Nat) (l : List Nat) (c : Nat) : kdKeys n (l ++ [c]) = insK (kdKeys n l) (kdVal n c) := by simp [kdKeys]
theorem kins_mem {ks : List Int} {k x : Int} : x ∈ insK ks k ↔ x ∈ ks ∨ x = k := by
  unfold insK
  split
  · rename_i h
    constructor
    · exact .inl
    · rintro (h1 | rfl)
      · exact h1
      · exact h
  · simp
theorem ins_nodup {ks : List Int} {k : Int} (h : ks.Nodup) : (insK ks k).Nodup := by
  unfold insK
  split
  · exact h
  · rename_i hk
    exact List.nodup_append.2 ⟨h, by simp, fun a ha b hb e => by simp at hb; subst hb; subst e; exact hk ha⟩
theorem keys_facts (n : Nat) : ∀ l : List Nat, (kdKeys n l).Nodup ∧ ∀ x, x ∈ kdKeys n l ↔ ∃ c ∈ l, x = kdVal n c := by
  intro l
  generalize hm : l.length = m
  induction m generalizing l with
  | zero =>
    obtain rfl := List.length_eq_zero_iff.1 hm
    exact ⟨List.nodup_nil, fun x => by simp [kdKeys]⟩
  | succ m ih =>
    obtain ⟨l', c, rfl⟩ : ∃ l' c, l = l' ++ [c] := ⟨l.dropLast, l.getLast (by intro e; subst e; cases hm), (List.dropLast_concat_getLast _).symm⟩
    obtain ⟨h1, h2⟩ := ih l' (by simpa using hm)
    rw [kd_snoc]
    refine ⟨ins_nodup h1, fun x => ?_⟩
    rw [kins_mem, h2]
    constructor
    · rintro (⟨d, hd, rfl⟩ | rfl)
      · exact ⟨d, by simp [hd], rfl⟩
      · exact ⟨c, by simp, rfl⟩
    · rintro ⟨d, hd, rfl⟩
      rw [List.mem_append] at hd
      rcases hd with hd | hd
      · exact .inl ⟨d, hd, rfl⟩
      · simp at hd; subst hd; exact .inr rfl
theorem sub_len : ∀ {l m : List Int}, l.Nodup → (∀ x ∈ l, x ∈ m) → l.length ≤ m.length := by
  intro l
  induction l with
  | nil => intro m _ _; simp
  | cons a l ih =>
    intro m hn h
    have ha := h a (by simp)
    have hn' := List.nodup_cons.1 hn
    have h3 := ih (m := m.erase a) hn'.2 fun x hx => (List.mem_erase_of_ne (show x ≠ a from fun e => hn'.1 (by rw [← e]; exact hx))).2 (h x (by simp [hx]))
    have h4 := List.length_erase_of_mem ha
    have h5 := List.length_pos_of_mem ha
    simp only [List.length_cons]
    omega
theorem keys_len {n : Nat} (h1 : 1 ≤ n) (h5 : n ≤ 5) : (kdKeys n (List.range (2 ^ (n * (n - 1) / 2)))).length = rc n := by
  obtain ⟨hd, hm⟩ := keys_facts n (List.range (2 ^ (n * (n - 1) / 2)))
  obtain ⟨R, hR⟩ : ∃ R : List Int, R = ((List.range (rc n)).map fun j => cfAll (bN (rp n j)) n n 0 0).map fun c => ((c : Nat) : Int) := ⟨_, rfl⟩
  have hRd : R.Nodup := by rw [hR]; exact nI_nodup.2 (kd_codes n (by omega))
  have hRl : R.length = rc n := by rw [hR]; simp
  have hRm : ∀ x, x ∈ R ↔ ∃ j, j < rc n ∧ x = (codeN (rpL n j) : Nat) := fun x => by
    have e : ∀ j, codeN (rpL n j) = cfAll (bN (rp n j)) n n 0 0 := fun j => code_eq (rpL_len n j) fun a b ha hb => rpL_bt ha (by omega)
    rw [hR]
    simp only [List.mem_map, List.mem_range]
    constructor
    · rintro ⟨c, ⟨j, hj, rfl⟩, rfl⟩; exact ⟨j, hj, by rw [e]⟩
    · rintro ⟨j, hj, rfl⟩; exact ⟨_, ⟨j, hj, rfl⟩, by rw [e]⟩
  have hsame : ∀ x, x ∈ kdKeys n (List.range (2 ^ (n * (n - 1) / 2))) ↔ x ∈ R := fun x => by
    rw [hm, hRm]
    constructor
    · rintro ⟨c, -, rfl⟩
      obtain ⟨j, hj, e⟩ := ln_kind (all_tour h1 (by omega) c) h5
      exact ⟨j, hj, by unfold kdVal; rw [e]⟩
    · rintro ⟨j, hj, rfl⟩
      obtain ⟨h3, h4⟩ := kd_reach n (by omega) h1 j hj
      exact ⟨_, List.mem_range.2 h3, by unfold kdVal; rw [h4, ln_rep h1 h5 hj]⟩
  have a1 := sub_len hd fun x hx => (hsame x).1 hx
  have a2 := sub_len hRd fun x hx => (hsame x).2 hx
  omega
theorem keys_le (n : Nat) (l : List Nat) : (kdKeys n l).length ≤ l.length := by
  generalize hm : l.length = m
  induction m generalizing l with
  | zero => obtain rfl := List.length_eq_zero_iff.1 hm; simp [kdKeys]
  | succ m ih =>
    obtain ⟨l', c, rfl⟩ : ∃ l' c, l = l' ++ [c] := ⟨l.dropLast, l.getLast (by intro e; subst e; cases hm), (List.dropLast_concat_getLast _).symm⟩
    have := ih l' (by simpa using hm)
    rw [kd_snoc]
    unfold insK
    split
    · omega
    · simp; omega
end Go.Proofs.YthoodjjjklbggaaDoor

