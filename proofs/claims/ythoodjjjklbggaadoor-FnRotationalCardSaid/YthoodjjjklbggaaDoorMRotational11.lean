/- Texts put together: OrdP, SmN, RtP, SkP, Mix, SkQ, KgF, GsP, Red. -/
import Derived.Test.YthoodjjjklbggaaDoorMRotational10
import Derived.Test.YthoodjjjklbggaaDoorMRotational04
import Derived.Test.YthoodjjjklbggaaDoorMRotational03
import Derived.Test.YthoodjjjklbggaaDoorMRotational02
import Derived.Test.YthoodjjjklbggaaDoorMRotational07
import Derived.Test.YthoodjjjklbggaaDoorMRotational09
import Derived.Test.YthoodjjjklbggaaDoorMRotational01
namespace Go.Proofs.YthoodjjjklbggaaDoor
open Go.RowKit Go.Sort
set_option maxRecDepth 100000
theorem perm_sum (F : Nat → Int) {l m : List Nat} (h : l.Perm m) : (l.map F).sum = (m.map F).sum := by
  induction h with
  | nil => rfl
  | cons x _ ih => simp only [List.map_cons, List.sum_cons, ih]
  | swap x y l => simp only [List.map_cons, List.sum_cons]; omega
  | trans _ _ h1 h2 => rw [h1, h2]
theorem perm_full : ∀ (q m : List Nat), q.Nodup → (∀ x ∈ q, x ∈ m) → m.length ≤ q.length → q.Perm m := by
  intro q
  induction q with
  | nil =>
    intro m _ _ h
    have : m = [] := List.eq_nil_of_length_eq_zero (by simpa using h)
    rw [this]
  | cons a q ih =>
    intro m hn hs hl
    have ha : a ∈ m := hs a (by simp)
    rw [List.nodup_cons] at hn
    have h1 : (m.erase a).length ≤ q.length := by
      rw [List.length_erase_of_mem ha]
      simp only [List.length_cons] at hl
      omega
    have h2 := ih (m.erase a) hn.2 (fun x hx => (List.mem_erase_of_ne (fun e => by subst e; exact hn.1 hx)).2 (hs x (by simp [hx]))) h1
    exact (h2.cons a).trans (List.perm_cons_erase ha).symm
theorem ord_perm {n : Nat} {q : List Nat} (hq : q ∈ ordL n) : q.Perm (List.range n) := by
  obtain ⟨h1, h2, h3⟩ := mem_ordL.1 hq
  exact perm_full q _ h3 (fun x hx => List.mem_range.2 (h2 x hx)) (by rw [List.length_range, h1]; exact Nat.le_refl _)
theorem ord_sum {n : Nat} {q : List Nat} (hq : q ∈ ordL n) (F : Nat → Int) : sumN F n = sumN (fun i => F (q.getD i 0)) n := by
  obtain ⟨h1, h2, h3⟩ := mem_ordL.1 hq
  have hperm : q.Perm (List.range n) := ord_perm hq
  rw [← map_sumN, ← perm_sum F hperm, list_sumN, List.length_map, h1]
  refine sumN_congr fun i hi => ?_
  have : i < q.length := by omega
  simp [List.getD_eq_getElem?_getD, this]
theorem ord_at {n : Nat} {q : List Nat} (hq : q ∈ ordL n) : (∀ i, i < n → q.getD i 0 < n) ∧ (∀ i k, i < n → k < n → q.getD i 0 = q.getD k 0 → i = k) ∧ ∀ b, b < n → ∃ k, k < n ∧ q.getD k 0 = b := by
  obtain ⟨h1, h2, h3⟩ := mem_ordL.1 hq
  refine ⟨fun i hi => h2 _ (by rw [getD_nat (by omega)]; exact List.getElem_mem _), fun i k hi hk e => ?_, fun b hb => ?_⟩
  · rw [getD_nat (by omega), getD_nat (by omega)] at e
    exact (List.getElem_inj h3).1 e
  · have : b ∈ q := (ord_perm hq).mem_iff.2 (List.mem_range.2 hb)
    obtain ⟨k, hk, rfl⟩ := List.getElem_of_mem this
    exact ⟨k, by omega, getD_nat hk⟩
end Go.Proofs.YthoodjjjklbggaaDoor

namespace Go.Proofs.YthoodjjjklbggaaDoor
open Go.RowKit Go.Sort
set_option maxRecDepth 100000
variable {n : Nat}
/-- a kind's names, as an order -/
theorem names_ord {f : Nat → Nat} (h1 : ∀ i, i < n → f i < n) (h2 : ∀ i k, i < n → k < n → f i = f k → i = k) : (List.range n).map f ∈ ordL n := by
  refine mem_ordL.2 ⟨by simp, fun x hx => ?_, ?_⟩
  · rw [List.mem_map] at hx
    obtain ⟨i, hi, rfl⟩ := hx
    exact h1 i (List.mem_range.1 hi)
  · rw [List.nodup_iff_pairwise_ne, List.pairwise_map]
    refine List.Pairwise.imp_of_mem (fun {a b} ha hb h e => h (h2 a b (List.mem_range.1 ha) (List.mem_range.1 hb) e)) List.nodup_range
theorem map_at {f : Nat → Nat} {i : Nat} (hi : i < n) : ((List.range n).map f).getD i 0 = f i := by simp [List.getD_eq_getElem?_getD, hi]
theorem sum_at {f : Nat → Nat} (h1 : ∀ i, i < n → f i < n) (h2 : ∀ i k, i < n → k < n → f i = f k → i = k) (F : Nat → Int) : sumN F n = sumN (fun i => F (f i)) n := by
  rw [ord_sum (names_ord h1 h2) F]
  exact sumN_congr fun k hk => by rw [map_at hk]
theorem sum_nat (F : Nat → Nat) (l : List Nat) : (((l.map F).sum : Nat) : Int) = (l.map fun a => (F a : Int)).sum := by
  induction l with
  | nil => rfl
  | cons a l ih => simp only [List.map_cons, List.sum_cons]; push_cast; rw [ih]
end Go.Proofs.YthoodjjjklbggaaDoor

namespace Go.Proofs.YthoodjjjklbggaaDoor
open Go.RowKit Go.Sort
set_option maxRecDepth 100000
/-- all connections -/
def connAll : Nat → List (List Int)
  | 1 => [[]]
  | 3 => [[1], [2]]
  | 5 => [[1, 2], [1, 3], [2, 4], [3, 4]]
  | 7 => [[1, 2, 3], [1, 2, 4], [1, 3, 5], [1, 4, 5], [2, 3, 6], [2, 4, 6], [3, 5, 6], [4, 5, 6]]
  | _ => []
theorem conn3 : ∀ a : Nat, a < 3 → 1 ≤ a → [(a : Int)] ∈ connAll 3 := by decide
theorem conn5 : ∀ a : Nat, a < 5 → ∀ b : Nat, b < 5 → (1 ≤ a ∧ a < b ∧ a + b ≠ 5) → [(a : Int), (b : Int)] ∈ connAll 5 := by decide
theorem conn7b : ∀ a : Nat, a < 7 → ∀ b : Nat, b < 7 → ∀ c : Nat, c < 7 → (!(decide (1 ≤ a) && decide (a < b) && decide (b < c) && (a + b != 7) && (a + c != 7) && (b + c != 7)) || (connAll 7).contains [(a : Int), (b : Int), (c : Int)]) = true := by decide +kernel
theorem conn7 (a : Nat) (ha : a < 7) (b : Nat) (hb : b < 7) (c : Nat) (hc : c < 7) (h1 : 1 ≤ a) (h2 : a < b) (h3 : b < c) (h4 : a + b ≠ 7) (h5 : a + c ≠ 7) (h6 : b + c ≠ 7) : [(a : Int), (b : Int), (c : Int)] ∈ connAll 7 := by
  have h := conn7b a ha b hb c hc
  have q : (decide (1 ≤ a) && decide (a < b) && decide (b < c) && (a + b != 7) && (a + c != 7) && (b + c != 7)) = true := by simp [h1, h2, h3, h4, h5, h6]
  rw [q] at h
  simpa using h
theorem conn_cases {n : Nat} {L : List Int} (h : connP n L) : L ∈ connAll n := by
  obtain ⟨hn, hx, hl⟩ := h
  rcases (show n = 1 ∨ n = 3 ∨ n = 5 ∨ n = 7 by omega) with rfl | rfl | rfl | rfl
  · have : L.length = 0 := by omega
    obtain rfl := List.eq_nil_of_length_eq_zero this
    simp [connAll]
  · have h1 : L.length = 1 := by omega
    match L, h1 with
    | [a], _ =>
      have q := hx 0 (by simp)
      simp [connAt] at q
      obtain ⟨a, rfl⟩ := Int.eq_ofNat_of_zero_le (show 0 ≤ a by omega)
      exact conn3 a (by omega) (by omega)
  · have h1 : L.length = 2 := by omega
    match L, h1 with
    | [a, b], _ =>
      have q := hx 0 (by simp)
      have q1 := hx 1 (by simp)
      simp [connAt] at q q1
      obtain ⟨a, rfl⟩ := Int.eq_ofNat_of_zero_le (show 0 ≤ a by omega)
      obtain ⟨b, rfl⟩ := Int.eq_ofNat_of_zero_le (show 0 ≤ b by omega)
      exact conn5 a (by omega) b (by omega) (by omega)
  · have h1 : L.length = 3 := by omega
    match L, h1 with
    | [a, b, c], _ =>
      have q := hx 0 (by simp)
      have q1 := hx 1 (by simp)
      have q2 := hx 2 (by simp)
      simp [connAt] at q q1 q2
      obtain ⟨a, rfl⟩ := Int.eq_ofNat_of_zero_le (show 0 ≤ a by omega)
      obtain ⟨b, rfl⟩ := Int.eq_ofNat_of_zero_le (show 0 ≤ b by omega)
      obtain ⟨c, rfl⟩ := Int.eq_ofNat_of_zero_le (show 0 ≤ c by omega)
      exact conn7 a (by omega) b (by omega) c (by omega) (by omega) (by omega) (by omega) (by omega) (by omega) (by omega)
/-- the symmetries of a relation -/
def symT (r : Nat → Nat → Bool) (n : Nat) : Nat := (ordL n).countP fun q => (List.range n).all fun a => (List.range n).all fun b => r (q.getD a 0) (q.getD b 0) == r a b
def rotR (L : List Int) (n : Nat) : Nat → Nat → Bool := fun a b => toQ (rotP L n) a b
def rotOk (n : Nat) (L : List Int) : Bool :=
  ((List.range n).all fun a => (List.range n).all fun b => (a == b || (rotR L n a b == !rotR L n b a)) && rotR L n ((a + 1) % n) ((b + 1) % n) == rotR L n a b) &&
  ((List.range n).all fun a => ((List.range n).countP (rotR L n a)) == (n - 1) / 2) &&
  (((List.range n).filter (rotR L n 0)).map fun (b : Nat) => (b : Int)) == L
theorem rot_all : ∀ n, n < 8 → ∀ L ∈ connAll n, rotOk n L = true := by decide +kernel
theorem rot_sym_all : ∀ n, n < 6 → ∀ L ∈ connAll n, symT (rotR L n) n % n = 0 := by decide +kernel
section
variable {n : Nat} {L : List Int}
theorem conn_n (h : connP n L) : n < 8 ∧ (n = 1 ∨ n = 3 ∨ n = 5 ∨ n = 7) := by have := h.1; omega
theorem rot_facts (h : connP n L) : (∀ a b, a < n → b < n → a ≠ b → rotR L n a b = !rotR L n b a) ∧ (∀ a b, a < n → b < n → rotR L n ((a + 1) % n) ((b + 1) % n) = rotR L n a b) ∧
    (∀ a, a < n → (List.range n).countP (rotR L n a) = (n - 1) / 2) ∧ (((List.range n).filter (rotR L n 0)).map fun (b : Nat) => (b : Int)) = L := by
  have h1 := rot_all n (conn_n h).1 L (conn_cases h)
  unfold rotOk at h1
  rw [Bool.and_eq_true, Bool.and_eq_true, List.all_eq_true, List.all_eq_true, beq_iff_eq] at h1
  obtain ⟨⟨h1, h2⟩, h3⟩ := h1
  have h4 := fun a b (ha : a < n) (hb : b < n) => List.all_eq_true.1 (h1 a (List.mem_range.2 ha)) b (List.mem_range.2 hb)
  refine ⟨fun a b ha hb hab => ?_, fun a b ha hb => ?_, fun a ha => ?_, h3⟩
  · have := h4 a b ha hb
    rw [Bool.and_eq_true, Bool.or_eq_true, beq_iff_eq, beq_iff_eq] at this
    exact this.1.resolve_left hab
  · have := h4 a b ha hb
    rw [Bool.and_eq_true, beq_iff_eq] at this
    exact this.2
  · have := h2 a (List.mem_range.2 ha)
    rwa [beq_iff_eq] at this
theorem rot_bt {a b : Nat} (ha : a < n) (hb : b < n) : bt (rotT L n) a b = rotR L n a b := turn_bt ha hb
theorem rot_tour (h : connP n L) : tourP n (rotT L n) := by
  have hl : (rotT L n).length = n := toL_len _ _
  have hn := conn_n h
  refine tour_of_bits (by omega) (by rw [hl]) (fun i hi => ?_) (fun a ha => ?_) (fun a b ha hb hab => ?_)
  · rw [hl] at hi ⊢
    exact ⟨setOf (toQ (rotP L n) i) n, by unfold rotT toL; simp [List.getD_eq_getElem?_getD, hi], setOf_lt _ _⟩
  · rw [hl] at ha
    rw [rot_bt ha ha]
    simp [rotR, toQ]
  · rw [hl] at ha hb
    rw [rot_bt ha hb, rot_bt hb ha]
    exact (rot_facts h).1 a b ha hb hab
theorem turn_nm {a : Nat} (ha : a < n) : nmN (turnL n n) a = (a + 1) % n := by
  have e : (turnL n n).getD a 0 = ((a : Int) + 1) % n := by unfold turnL; simp [List.getD_eq_getElem?_getD, ha]
  unfold nmN
  rw [e, show ((a : Int) + 1) = ((a + 1 : Nat) : Int) by omega, ← Int.natCast_emod, Int.toNat_natCast]
/-- turned by one it is the same -/
theorem rotT_turn (h : connP n L) : rnL (rotT L n) (turnL n n) = rotT L n := by
  have hn := conn_n h
  have hP : PermP n (turnL n n) := turnL_perm (by omega) (by omega)
  have hl : (rotT L n).length = n := toL_len _ _
  refine (rn_of hl hP hl (fun i hi => ⟨setOf (toQ (rotP L n) i) n, by unfold rotT toL; simp [List.getD_eq_getElem?_getD, hi], setOf_lt _ _⟩) fun p q hp hq => ?_).symm
  rw [turn_nm hp, turn_nm hq, rot_bt (Nat.mod_lt _ (by omega)) (Nat.mod_lt _ (by omega)), rot_bt hp hq]
  exact (rot_facts h).2.1 p q hp hq
theorem pop_count {xs : List Int} (hp : tourP n xs) {a : Nat} (ha : a < n) : popN 8 (winsN xs a) = (List.range n).countP (bt xs a) := by
  rw [pop_mem (tour_wins hp (tour_len hp ▸ ha)).2.2, mem8 hp ha]
  unfold memN
  rw [← List.countP_eq_length_filter]
  try rfl
theorem rot_pop (h : connP n L) {a : Nat} (ha : a < n) : popN 8 (winsN (rotT L n) a) = (n - 1) / 2 := by
  rw [pop_count (rot_tour h) ha, ← (rot_facts h).2.2.1 a ha]
  exact List.countP_congr fun b hb => by rw [rot_bt ha (List.mem_range.1 hb)]
theorem rot_score (h : connP n L) {a : Nat} (ha : a < n) : scN (rotT L n) a = ((n - 1) / 2 : Nat) := by
  unfold scN
  rw [rot_pop h ha]
theorem rot_tri (h : connP n L) : ctK (rotT L n) n n = mtK n n := by
  have hn := conn_n h
  unfold ctK mtK
  congr 2
  congr 1
  refine List.map_congr_left fun a ha => ?_
  have ha := List.mem_range.1 ha
  rw [rot_pop h ha]
  congr 1
  omega
/-- whom the first player beats -/
theorem rot_first (h : connP n L) : (((List.range n).filter (bt (rotT L n) 0)).map fun (b : Nat) => (b : Int)) = L := by
  have hn := conn_n h
  have e : (List.range n).filter (bt (rotT L n) 0) = (List.range n).filter (rotR L n 0) := List.filter_congr fun b hb => rot_bt (by omega) (List.mem_range.1 hb)
  rw [e]
  exact (rot_facts h).2.2.2
end
end Go.Proofs.YthoodjjjklbggaaDoor

namespace Go.Proofs.YthoodjjjklbggaaDoor
set_option maxRecDepth 100000
structure SkT (A : Nat → Nat → Int) (m : Nat) : Prop where
  diag : ∀ i, i < m → A i i = 0
  skew : ∀ i k, i < m → k < m → A i k = - A k i
  one : ∀ i k, i < m → k < m → i ≠ k → A i k = 1 ∨ A i k = -1
/-- a kernel vector: each row's sum is 0 -/
def kerV (A : Nat → Nat → Int) (m : Nat) (w : Nat → Int) : Prop := ∀ k, k < m → sumN (fun i => A i k * w i) m = 0
theorem ker_lin {A : Nat → Nat → Int} {m : Nat} {x y : Nat → Int} (hx : kerV A m x) (hy : kerV A m y) (p q : Int) : kerV A m fun i => p * x i - q * y i := by
  intro k hk
  rw [sumN_congr (g := fun i => p * (A i k * x i) - q * (A i k * y i)) fun i _ => by
    rw [Int.mul_sub, ← Int.mul_assoc, ← Int.mul_assoc, Int.mul_comm (A i k) p, Int.mul_comm (A i k) q, Int.mul_assoc, Int.mul_assoc], sumN_sub, sumN_mul, sumN_mul, hx k hk, hy k hk]
  simp
theorem sumN_mod2 {f g : Nat → Int} : ∀ m, (∀ i, i < m → (f i - g i) % 2 = 0) → (sumN f m - sumN g m) % 2 = 0 := by
  intro m
  induction m with
  | zero => intro _; simp [sumN]
  | succ m ih =>
    intro h
    have h1 := ih fun i hi => h i (by omega)
    have h2 := h m (by omega)
    rw [sumN, sumN]
    omega
theorem ker_par {A : Nat → Nat → Int} {m : Nat} (hA : SkT A m) {w : Nat → Int} (hw : kerV A m w) {k : Nat} (hk : k < m) : (sumN w m - w k) % 2 = 0 := by
  have h1 : (sumN (fun i => A i k * w i) m - sumN (fun i => w i - if i = k then w k else 0) m) % 2 = 0 := sumN_mod2 m fun i hi => by
    by_cases e : i = k
    · subst e; rw [hA.diag i hi, if_pos rfl]; omega
    · rw [if_neg e]
      rcases hA.one i k hi hk e with h | h <;> rw [h] <;> omega
  rw [hw k hk, sumN_sub, sumN_one hk (fun i _ hi => if_neg hi), if_pos rfl] at h1
  omega
/-- a kernel vector that is not 0 is 0 nowhere -/
theorem ker_nz {A : Nat → Nat → Int} {m : Nat} (hA : SkT A m) : ∀ B (w : Nat → Int), kerV A m w → (∃ a, a < m ∧ w a ≠ 0 ∧ (w a).natAbs < B) → ∀ a, a < m → w a ≠ 0 := by
  intro B
  induction B with
  | zero => rintro w _ ⟨a, _, _, h⟩; omega
  | succ B ih =>
    rintro w hw ⟨a0, ha0, h0, hB⟩ a ha
    rcases Int.emod_two_eq (sumN w m) with hT | hT
    · have hev : ∀ i, i < m → w i = 2 * (w i / 2) := fun i hi => by have := ker_par hA hw hi; omega
      have hw' : kerV A m fun i => w i / 2 := fun k hk => by
        have h1 := hw k hk
        rw [sumN_congr (g := fun i => 2 * (A i k * (w i / 2))) fun i hi => by
          have := hev i hi
          rw [← Int.mul_assoc, Int.mul_comm 2 (A i k), Int.mul_assoc, ← this], sumN_mul] at h1
        show sumN (fun i => A i k * (w i / 2)) m = 0
        omega
      have := ih _ hw' ⟨a0, ha0, by have := hev a0 ha0; omega, by have := hev a0 ha0; omega⟩ a ha
      intro e
      apply this
      show w a / 2 = 0
      rw [e]; rfl
    · have := ker_par hA hw ha
      omega
theorem ker_zero {A : Nat → Nat → Int} {m : Nat} (hA : SkT A m) {w : Nat → Int} (hw : kerV A m w) {a0 : Nat} (ha0 : a0 < m) (h0 : w a0 = 0) : ∀ a, a < m → w a = 0 := by
  intro a ha
  refine Classical.byContradiction fun h => ?_
  exact ker_nz hA _ w hw ⟨a, ha, h, Nat.lt_succ_self _⟩ a0 ha0 h0
/-- kernel vectors are proportional -/
theorem ker_prop {A : Nat → Nat → Int} {m : Nat} (hA : SkT A m) {x y : Nat → Int} (hx : kerV A m x) (hy : kerV A m y) {a0 : Nat} (ha0 : a0 < m) : ∀ a, a < m → y a0 * x a = x a0 * y a := by
  intro a ha
  have h0 : y a0 * x a0 - x a0 * y a0 = 0 := by rw [Int.mul_comm]; omega
  have : y a0 * x a - x a0 * y a = 0 := ker_zero hA (ker_lin hx hy (y a0) (x a0)) ha0 h0 a ha
  omega
/-! the Pfaffian -/
def pfS (A : Nat → Nat → Int) (h : Nat) (F : List Nat → Int) : List Nat → List Nat → Int → Int
  | _, [], _ => 0
  | pre, x :: t, s => s * F (pre ++ t) * A h x + pfS A h F (pre ++ [x]) t (-s)
def pfF (A : Nat → Nat → Int) : Nat → List Nat → Int
  | 0, _ => 1
  | _ + 1, [] => 1
  | f + 1, h :: t => pfS A h (pfF A f) [] t 1
def pfV (A : Nat → Nat → Int) (m i : Nat) : Int := (if i % 2 = 1 then -1 else 1) * pfF A m ((List.range m).eraseIdx i)
/-! the Pfaffian vector is in the kernel -/
section
variable {A : Nat → Nat → Int}
theorem pf_ker1 (hA : SkT A 1) : kerV A 1 (pfV A 1) := by
  intro k hk
  have h0 := hA.diag 0 (by omega)
  obtain rfl : k = 0 := by omega
  simp only [sumN, h0]
  simp
theorem pf_ker3 (hA : SkT A 3) : kerV A 3 (pfV A 3) := by
  intro k hk
  have d0 := hA.diag 0 (by omega)
  have d1 := hA.diag 1 (by omega)
  have d2 := hA.diag 2 (by omega)
  have s10 := hA.skew 1 0 (by omega) (by omega)
  have s20 := hA.skew 2 0 (by omega) (by omega)
  have s21 := hA.skew 2 1 (by omega) (by omega)
  have e0 : pfV A 3 0 = A 1 2 := by simp [pfV, pfF, pfS, List.range, List.range.loop]
  have e1 : pfV A 3 1 = - A 0 2 := by simp [pfV, pfF, pfS, List.range, List.range.loop]
  have e2 : pfV A 3 2 = A 0 1 := by simp [pfV, pfF, pfS, List.range, List.range.loop]
  obtain rfl | rfl | rfl : k = 0 ∨ k = 1 ∨ k = 2 := by omega
  all_goals
    simp only [sumN, e0, e1, e2]
    grind
set_option maxHeartbeats 4000000 in
theorem pf_ker5 (hA : SkT A 5) : kerV A 5 (pfV A 5) := by
  intro k hk
  have d0 := hA.diag 0 (by omega)
  have d1 := hA.diag 1 (by omega)
  have d2 := hA.diag 2 (by omega)
  have d3 := hA.diag 3 (by omega)
  have d4 := hA.diag 4 (by omega)
  have s10 := hA.skew 1 0 (by omega) (by omega)
  have s20 := hA.skew 2 0 (by omega) (by omega)
  have s21 := hA.skew 2 1 (by omega) (by omega)
  have s30 := hA.skew 3 0 (by omega) (by omega)
  have s31 := hA.skew 3 1 (by omega) (by omega)
  have s32 := hA.skew 3 2 (by omega) (by omega)
  have s40 := hA.skew 4 0 (by omega) (by omega)
  have s41 := hA.skew 4 1 (by omega) (by omega)
  have s42 := hA.skew 4 2 (by omega) (by omega)
  have s43 := hA.skew 4 3 (by omega) (by omega)
  have e0 : pfV A 5 0 = (A 1 2 * (A 3 4) - A 1 3 * (A 2 4) + A 1 4 * (A 2 3)) := by
    simp [pfV, pfF, pfS, List.range, List.range.loop]
    try grind
  have e1 : pfV A 5 1 = -(A 0 2 * (A 3 4) - A 0 3 * (A 2 4) + A 0 4 * (A 2 3)) := by
    simp [pfV, pfF, pfS, List.range, List.range.loop]
    try grind
  have e2 : pfV A 5 2 = (A 0 1 * (A 3 4) - A 0 3 * (A 1 4) + A 0 4 * (A 1 3)) := by
    simp [pfV, pfF, pfS, List.range, List.range.loop]
    try grind
  have e3 : pfV A 5 3 = -(A 0 1 * (A 2 4) - A 0 2 * (A 1 4) + A 0 4 * (A 1 2)) := by
    simp [pfV, pfF, pfS, List.range, List.range.loop]
    try grind
  have e4 : pfV A 5 4 = (A 0 1 * (A 2 3) - A 0 2 * (A 1 3) + A 0 3 * (A 1 2)) := by
    simp [pfV, pfF, pfS, List.range, List.range.loop]
    try grind
  obtain rfl | rfl | rfl | rfl | rfl : k = 0 ∨ k = 1 ∨ k = 2 ∨ k = 3 ∨ k = 4 := by omega
  all_goals
    simp only [sumN, e0, e1, e2, e3, e4]
    clear e0
    clear e1
    clear e2
    clear e3
    clear e4
    grind
set_option maxHeartbeats 4000000 in
theorem pf_ker7 (hA : SkT A 7) : kerV A 7 (pfV A 7) := by
  intro k hk
  have d0 := hA.diag 0 (by omega)
  have d1 := hA.diag 1 (by omega)
  have d2 := hA.diag 2 (by omega)
  have d3 := hA.diag 3 (by omega)
  have d4 := hA.diag 4 (by omega)
  have d5 := hA.diag 5 (by omega)
  have d6 := hA.diag 6 (by omega)
  have s10 := hA.skew 1 0 (by omega) (by omega)
  have s20 := hA.skew 2 0 (by omega) (by omega)
  have s21 := hA.skew 2 1 (by omega) (by omega)
  have s30 := hA.skew 3 0 (by omega) (by omega)
  have s31 := hA.skew 3 1 (by omega) (by omega)
  have s32 := hA.skew 3 2 (by omega) (by omega)
  have s40 := hA.skew 4 0 (by omega) (by omega)
  have s41 := hA.skew 4 1 (by omega) (by omega)
  have s42 := hA.skew 4 2 (by omega) (by omega)
  have s43 := hA.skew 4 3 (by omega) (by omega)
  have s50 := hA.skew 5 0 (by omega) (by omega)
  have s51 := hA.skew 5 1 (by omega) (by omega)
  have s52 := hA.skew 5 2 (by omega) (by omega)
  have s53 := hA.skew 5 3 (by omega) (by omega)
  have s54 := hA.skew 5 4 (by omega) (by omega)
  have s60 := hA.skew 6 0 (by omega) (by omega)
  have s61 := hA.skew 6 1 (by omega) (by omega)
  have s62 := hA.skew 6 2 (by omega) (by omega)
  have s63 := hA.skew 6 3 (by omega) (by omega)
  have s64 := hA.skew 6 4 (by omega) (by omega)
  have s65 := hA.skew 6 5 (by omega) (by omega)
  have e0 : pfV A 7 0 = (A 1 2 * (A 3 4 * (A 5 6) - A 3 5 * (A 4 6) + A 3 6 * (A 4 5)) - A 1 3 * (A 2 4 * (A 5 6) - A 2 5 * (A 4 6) + A 2 6 * (A 4 5)) + A 1 4 * (A 2 3 * (A 5 6) - A 2 5 * (A 3 6) + A 2 6 * (A 3 5)) - A 1 5 * (A 2 3 * (A 4 6) - A 2 4 * (A 3 6) + A 2 6 * (A 3 4)) + A 1 6 * (A 2 3 * (A 4 5) - A 2 4 * (A 3 5) + A 2 5 * (A 3 4))) := by
    simp [pfV, pfF, pfS, List.range, List.range.loop]
    try grind
  have e1 : pfV A 7 1 = -(A 0 2 * (A 3 4 * (A 5 6) - A 3 5 * (A 4 6) + A 3 6 * (A 4 5)) - A 0 3 * (A 2 4 * (A 5 6) - A 2 5 * (A 4 6) + A 2 6 * (A 4 5)) + A 0 4 * (A 2 3 * (A 5 6) - A 2 5 * (A 3 6) + A 2 6 * (A 3 5)) - A 0 5 * (A 2 3 * (A 4 6) - A 2 4 * (A 3 6) + A 2 6 * (A 3 4)) + A 0 6 * (A 2 3 * (A 4 5) - A 2 4 * (A 3 5) + A 2 5 * (A 3 4))) := by
    simp [pfV, pfF, pfS, List.range, List.range.loop]
    try grind
  have e2 : pfV A 7 2 = (A 0 1 * (A 3 4 * (A 5 6) - A 3 5 * (A 4 6) + A 3 6 * (A 4 5)) - A 0 3 * (A 1 4 * (A 5 6) - A 1 5 * (A 4 6) + A 1 6 * (A 4 5)) + A 0 4 * (A 1 3 * (A 5 6) - A 1 5 * (A 3 6) + A 1 6 * (A 3 5)) - A 0 5 * (A 1 3 * (A 4 6) - A 1 4 * (A 3 6) + A 1 6 * (A 3 4)) + A 0 6 * (A 1 3 * (A 4 5) - A 1 4 * (A 3 5) + A 1 5 * (A 3 4))) := by
    simp [pfV, pfF, pfS, List.range, List.range.loop]
    try grind
  have e3 : pfV A 7 3 = -(A 0 1 * (A 2 4 * (A 5 6) - A 2 5 * (A 4 6) + A 2 6 * (A 4 5)) - A 0 2 * (A 1 4 * (A 5 6) - A 1 5 * (A 4 6) + A 1 6 * (A 4 5)) + A 0 4 * (A 1 2 * (A 5 6) - A 1 5 * (A 2 6) + A 1 6 * (A 2 5)) - A 0 5 * (A 1 2 * (A 4 6) - A 1 4 * (A 2 6) + A 1 6 * (A 2 4)) + A 0 6 * (A 1 2 * (A 4 5) - A 1 4 * (A 2 5) + A 1 5 * (A 2 4))) := by
    simp [pfV, pfF, pfS, List.range, List.range.loop]
    try grind
  have e4 : pfV A 7 4 = (A 0 1 * (A 2 3 * (A 5 6) - A 2 5 * (A 3 6) + A 2 6 * (A 3 5)) - A 0 2 * (A 1 3 * (A 5 6) - A 1 5 * (A 3 6) + A 1 6 * (A 3 5)) + A 0 3 * (A 1 2 * (A 5 6) - A 1 5 * (A 2 6) + A 1 6 * (A 2 5)) - A 0 5 * (A 1 2 * (A 3 6) - A 1 3 * (A 2 6) + A 1 6 * (A 2 3)) + A 0 6 * (A 1 2 * (A 3 5) - A 1 3 * (A 2 5) + A 1 5 * (A 2 3))) := by
    simp [pfV, pfF, pfS, List.range, List.range.loop]
    try grind
  have e5 : pfV A 7 5 = -(A 0 1 * (A 2 3 * (A 4 6) - A 2 4 * (A 3 6) + A 2 6 * (A 3 4)) - A 0 2 * (A 1 3 * (A 4 6) - A 1 4 * (A 3 6) + A 1 6 * (A 3 4)) + A 0 3 * (A 1 2 * (A 4 6) - A 1 4 * (A 2 6) + A 1 6 * (A 2 4)) - A 0 4 * (A 1 2 * (A 3 6) - A 1 3 * (A 2 6) + A 1 6 * (A 2 3)) + A 0 6 * (A 1 2 * (A 3 4) - A 1 3 * (A 2 4) + A 1 4 * (A 2 3))) := by
    simp [pfV, pfF, pfS, List.range, List.range.loop]
    try grind
  have e6 : pfV A 7 6 = (A 0 1 * (A 2 3 * (A 4 5) - A 2 4 * (A 3 5) + A 2 5 * (A 3 4)) - A 0 2 * (A 1 3 * (A 4 5) - A 1 4 * (A 3 5) + A 1 5 * (A 3 4)) + A 0 3 * (A 1 2 * (A 4 5) - A 1 4 * (A 2 5) + A 1 5 * (A 2 4)) - A 0 4 * (A 1 2 * (A 3 5) - A 1 3 * (A 2 5) + A 1 5 * (A 2 3)) + A 0 5 * (A 1 2 * (A 3 4) - A 1 3 * (A 2 4) + A 1 4 * (A 2 3))) := by
    simp [pfV, pfF, pfS, List.range, List.range.loop]
    try grind
  obtain rfl | rfl | rfl | rfl | rfl | rfl | rfl : k = 0 ∨ k = 1 ∨ k = 2 ∨ k = 3 ∨ k = 4 ∨ k = 5 ∨ k = 6 := by omega
  all_goals
    simp only [sumN, e0, e1, e2, e3, e4, e5, e6]
    clear e0
    clear e1
    clear e2
    clear e3
    clear e4
    clear e5
    clear e6
    grind
end
end Go.Proofs.YthoodjjjklbggaaDoor

namespace Go.Proofs.YthoodjjjklbggaaDoor
open Go.RowKit

theorem snocInd {α : Type} {p : List α → Prop} (h0 : p []) (h1 : ∀ xs x, p xs → p (xs ++ [x])) (xs : List α) : p xs := by
  have h : ∀ ys : List α, p ys.reverse := by
    intro ys
    induction ys with
    | nil => exact h0
    | cons y ys ih => rw [List.reverse_cons]; exact h1 _ _ ih
  have := h xs.reverse
  rwa [List.reverse_reverse] at this
theorem gcd_step (x y : Nat) : Nat.gcd y (x % y) = Nat.gcd x y := by
  rw [Nat.gcd_comm y, ← Nat.gcd_rec, Nat.gcd_comm]


/-- the greatest common divisor of the numbers -/
def gcdL (xs : List Int) : Nat := xs.foldl (fun g x => Nat.gcd g x.toNat) 0
theorem gcdL_snoc (xs : List Int) (x : Int) : gcdL (xs ++ [x]) = Nat.gcd (gcdL xs) x.toNat := by simp [gcdL, List.foldl_append]
theorem gcdL_dvd (xs : List Int) : ∀ x ∈ xs, gcdL xs ∣ x.toNat := by
  refine snocInd (p := fun xs => ∀ x ∈ xs, gcdL xs ∣ x.toNat) (by simp) (fun xs y ih x hx => ?_) xs
  rw [gcdL_snoc]
  rw [List.mem_append, List.mem_singleton] at hx
  rcases hx with hx | rfl
  · exact Nat.dvd_trans (Nat.gcd_dvd_left _ _) (ih x hx)
  · exact Nat.gcd_dvd_right _ _
theorem gcdL_zero {xs : List Int} (h0 : ∀ x ∈ xs, 0 ≤ x) : gcdL xs = 0 ↔ ∀ x ∈ xs, x = 0 := by
  constructor
  · intro h x hx
    have h1 := gcdL_dvd xs x hx
    rw [h] at h1
    have h2 := Nat.eq_zero_of_zero_dvd h1
    have h3 := h0 x hx
    omega
  · refine snocInd (p := fun xs => (∀ x ∈ xs, x = 0) → gcdL xs = 0) (fun _ => rfl) (fun xs y ih h => ?_) xs
    rw [gcdL_snoc, ih (fun x hx => h x (by simp [hx])), h y (by simp)]
    rfl
def lowL (xs : List Int) : List Int := xs.map fun x => x / (gcdL xs : Int)
theorem gcd_le_bd {g n B : Nat} (hg : g ≤ B) (hn : n ≤ B) : Nat.gcd g n ≤ B := by
  rcases Nat.eq_zero_or_pos g with h | h
  · subst h; rw [Nat.gcd_zero_left]; exact hn
  · exact Nat.le_trans (Nat.gcd_le_left n h) hg
theorem gcdL_le {B : Nat} (xs : List Int) : (∀ x ∈ xs, x.toNat ≤ B) → gcdL xs ≤ B := by
  refine snocInd (p := fun xs => (∀ x ∈ xs, x.toNat ≤ B) → gcdL xs ≤ B) (fun _ => by simp [gcdL]) (fun xs y ih h => ?_) xs
  rw [gcdL_snoc]
  exact gcd_le_bd (ih fun x hx => h x (by simp [hx])) (h y (by simp))
theorem take_snoc {xs : List Int} {k : Nat} (hk : k < xs.length) : xs.take (k + 1) = xs.take k ++ [xs[k]?.getD 0] := by
  rw [List.take_succ_eq_append_getElem hk]
  simp [hk]

theorem map_take_succ' {xs : List Int} {k : Nat} (f : Int → Int) (hk : k < xs.length) : (xs.take (k + 1)).map f = (xs.take k).map f ++ [f (xs[k]?.getD 0)] := by
  rw [take_snoc hk, List.map_append]; rfl
set_option maxHeartbeats 1000000 in
theorem lowest_any (v : Value) (xs : List Int) (w : World) (h : Rd w v xs) (h0 : ∀ x ∈ xs, 0 ≤ x ∧ x ≤ 4611686018427387904) (hne : gcdL xs ≠ 0) (hlen : xs.length ≤ 1000000) :
    Calls Tryd.prog 62 #[v] w fun e w' => ∃ v', e = .returned v' ∧ Own w' w.heap.size v' (lowL xs) ∧ (Below w.heap.size w w' ∧ (xs ≠ [] → v' ≠ .slice none 0 0)) := by
  have HR := Lib.hid h
  obtain ⟨A, c, rfl, hl1, hm1, hc1⟩ := h
  unfold maxLen at hm1
  have HB0 := Lib.hid h0
  generalize hn : xs.length = n at *
  have H1 := Lib.hid hn
  have H3 := Lib.hid hc1
  clear hn hc1 h0
  go_enter Tryd.func62, Tryd.ntmps62
  go_wp2
  go_loopw [3, 11] (fun s i wr => ∃ k q : Nat, k ≤ n ∧ i = .int .i64 k ∧ s = .int .i64 (gcdL (xs.take k)) ∧ wr = w.drewN q) (fun _ i _ => n - (intOf i).toNat)
  case atStart => exact ⟨0, 0, by omega, rfl, rfl, rfl⟩
  case round =>
    obtain ⟨k, q, hk, rfl, rfl, rfl⟩ := hrel
    by_cases hlt : k < n
    · obtain ⟨b, off, rfl, hbb, hx⟩ := H3.out (by omega)
      have hxk := hx k hlt
      have hbd := HB0.out (xs[k]?.getD 0) (by rw [List.getElem?_eq_getElem (by rw [H1.out]; exact hlt)]; exact List.getElem_mem _)
      have hgb : gcdL (xs.take k) ≤ 4611686018427387904 := gcdL_le _ fun x hx => by have := HB0.out x (List.mem_of_mem_take hx); omega
      have hst := take_snoc (by rw [H1.out]; exact hlt : k < xs.length)
      have hgs : gcdL (xs.take (k + 1)) = Nat.gcd (gcdL (xs.take k)) (xs[k]?.getD 0).toNat := by rw [hst, gcdL_snoc]
      have HG := Lib.hid hgs
      clear hx hst hgs
      generalize hg : gcdL (xs.take k) = g at *
      have HGG := Lib.hid hg
      clear hg
      obtain ⟨y, hy⟩ : ∃ y : Nat, xs[k]?.getD 0 = (y : Int) := ⟨(xs[k]?.getD 0).toNat, by omega⟩
      have hxk' : w.cell? ⟨b, off + k, none⟩ = some (.int .i64 (y : Int)) := by rw [hxk, List.getD_eq_getElem?_getD, hy]
      rw [hy] at hbd
      have HG' : Hid (gcdL (xs.take (k + 1)) = Nat.gcd g y) := by have := HG.out; rw [hy] at this; exact this
      clear hxk hy HG
      go_wp2
      go_loopw [3, 5] (fun s t wr => ∃ x z q : Nat, s = .int .i64 x ∧ t = .int .i64 z ∧ x ≤ 4611686018427387904 ∧ z ≤ 4611686018427387904 ∧ wr = w.drewN q ∧ Hid (Nat.gcd x z = Nat.gcd g y)) (fun _ t _ => (intOf t).toNat)
      case atStart => exact ⟨g, y, q, rfl, rfl, hgb, by omega, rfl, rfl⟩
      case round =>
        obtain ⟨x, z, q', rfl, rfl, hx, hz, rfl, HE⟩ := hrel
        by_cases h0 : 0 < z
        · have hz1 : (1 : Int) ≤ (z : Int) := by omega
          have hzne : ((z : Int) != 0) = true := by simp; omega
          have hlt' := Nat.mod_lt x h0
          go_wp2
          go_region
          all_goals
            go_wp2
            go_roundw
            case rel => exact ⟨z, x % z, q' + 1, rfl, by go_num, hz, by omega, rfl, (gcd_step x z).trans HE.out⟩
            case measure => simp [intOf]; omega
        · obtain rfl : z = 0 := by omega
          go_wp2
          go_roundw
          case rel =>
            refine ⟨k + 1, q', by omega, by go_num, ?_, rfl⟩
            have := HE.out
            rw [Nat.gcd_zero_right] at this
            rw [HG'.out, this]
          case measure => simp [intOf]; omega
    · obtain rfl : k = n := by omega
      have ht : xs.take k = xs := List.take_of_length_le (by rw [H1.out]; exact Nat.le_refl _)
      have hg1 : 1 ≤ gcdL xs := by omega
      have hgb : gcdL xs ≤ 4611686018427387904 := gcdL_le _ fun x hx => by have := HB0.out x hx; omega
      rw [ht]
      have HGX := Lib.hid (rfl : gcdL xs = gcdL xs)
      have HLW : Hid (lowL xs = xs.map fun x => x / (gcdL xs : Int)) := rfl
      clear hne
      generalize hg : gcdL xs = g at *
      clear hg HGX
      go_wp2
      go_loopw [6, 24] (fun s i wr => ∃ j : Nat, j ≤ k ∧ i = .int .i64 j ∧ Own wr w.heap.size s ((xs.take j).map fun x => x / (g : Int)) ∧ (0 < j → s ≠ .slice none 0 0) ∧ Below w.heap.size w wr) (fun _ i _ => k - (intOf i).toNat)
      case atStart => exact ⟨0, by omega, rfl, Own.nil_ _ _, fun h => absurd h (by omega), below_drewN (Below.refl _ _) _⟩
      case round =>
        obtain ⟨j, hj, rfl, hown, hnn, hb⟩ := hrel
        by_cases hlt' : j < k
        · obtain ⟨b, off, rfl, hbb, hx⟩ := H3.out (by omega)
          have hxj : wr.cell? ⟨b, off + j, none⟩ = some (.int .i64 (xs.getD j 0)) := (hb.cell (by exact hbb)).trans (hx j hlt')
          have hbd := HB0.out (xs[j]?.getD 0) (by rw [List.getElem?_eq_getElem (by rw [H1.out]; exact hlt')]; exact List.getElem_mem _)
          have hl2 : ((xs.take j).map fun x => x / (g : Int)).length ≤ 1000000 := by rw [List.length_map, List.length_take]; omega
          have hbs := hb.size
          have HO := Lib.hid hown
          have HB := Lib.hid hb
          have HNN := Lib.hid hnn
          clear hx hown hb hnn
          go_wp2_with (at_builtin; refine wp_append1 _ rfl (.tmp 28) (.tmp 32) rfl w.heap.size _ _ _ rfl HO.out rfl (by omega) (by omega) ?_; intro v' w1 hown1 hg1)
          have hb1 := below_append HB.out hg1 HO.out (Nat.le_refl _) hbs
          go_roundw
          case rel =>
            refine ⟨j + 1, by omega, by go_num, ?_, fun _ => ?_, hb1⟩
            · rw [map_take_succ' _ (by rw [H1.out]; exact hlt')]
              exact hown1
            · rintro rfl
              rcases hown1.2 with ⟨_, h2⟩ | ⟨_, _, _, h2, _⟩
              · simp at h2
              · cases h2
          case measure => simp [intOf]; omega
        · obtain rfl : j = k := by omega
          go_wp2
          go_ret
          refine ⟨_, rfl, ?_, hb, fun hne => hnn ?_⟩
          · rw [HLW.out]
            rwa [ht] at hown
          · have : xs.length ≠ 0 := fun h => hne (List.eq_nil_of_length_eq_zero h)
            rw [H1.out] at this
            omega
end Go.Proofs.YthoodjjjklbggaaDoor

namespace Go.Proofs.YthoodjjjklbggaaDoor
set_option maxRecDepth 100000
def pfBd : Nat → Nat
  | 0 => 1
  | 1 => 1
  | n + 2 => (n + 1) * pfBd n
theorem pfS_facts (A : Nat → Nat → Int) (h : Nat) (F : List Nat → Int) (B : Nat) : ∀ (t pre : List Nat) (s : Int), (s = 1 ∨ s = -1) → (∀ x ∈ t, A h x = 1 ∨ A h x = -1) →
    (∀ l1 x l2, pre ++ t = l1 ++ x :: l2 → F (l1 ++ l2) % 2 = 1 ∧ -(B : Int) ≤ F (l1 ++ l2) ∧ F (l1 ++ l2) ≤ B) →
    pfS A h F pre t s % 2 = (t.length : Int) % 2 ∧ -((t.length * B : Nat) : Int) ≤ pfS A h F pre t s ∧ pfS A h F pre t s ≤ ((t.length * B : Nat) : Int) := by
  intro t
  induction t with
  | nil => intro pre s _ _ _; simp [pfS]
  | cons x t ih =>
    intro pre s hs hA hF
    obtain ⟨h1, h2, h3⟩ := ih (pre ++ [x]) (-s) (by omega) (fun y hy => hA y (by simp [hy])) (fun l1 y l2 e => hF l1 y l2 (by simpa using e))
    obtain ⟨f1, f2, f3⟩ := hF pre x t rfl
    have ha := hA x (by simp)
    rw [pfS, List.length_cons, Nat.succ_mul]
    generalize pfS A h F (pre ++ [x]) t (-s) = Z at *
    generalize F (pre ++ t) = Y at *
    generalize hLB : t.length * B = LB at *
    generalize t.length = L at *
    rcases hs with rfl | rfl <;> rcases ha with ha | ha <;> rw [ha] <;> push_cast <;> omega
theorem pfF_facts {A : Nat → Nat → Int} {m : Nat} (hA : SkT A m) : ∀ (f : Nat) (l : List Nat), l.length ≤ f → l.length % 2 = 0 → l.Nodup → (∀ x ∈ l, x < m) →
    pfF A f l % 2 = 1 ∧ -(pfBd l.length : Int) ≤ pfF A f l ∧ pfF A f l ≤ pfBd l.length := by
  intro f
  induction f using Nat.strongRecOn with
  | _ f ih =>
    intro l hl hev hnd hm
    match f, l, hl, hev, hnd, hm with
    | 0, [], _, _, _, _ => simp [pfF, pfBd]
    | 0, _ :: _, hl, _, _, _ => simp at hl
    | f + 1, [], _, _, _, _ => simp [pfF, pfBd]
    | f + 1, [h], _, hev, _, _ => simp at hev
    | f + 1, h :: x :: t, hl, hev, hnd, hm =>
      have hnd' := List.nodup_cons.1 hnd
      have := pfS_facts A h (pfF A f) (pfBd t.length) (x :: t) [] 1 (.inl rfl) (fun y hy => by
        refine hA.one h y (hm h (by simp)) (hm y (List.mem_cons_of_mem _ hy)) fun e => ?_
        subst e; exact hnd'.1 hy) (fun l1 y l2 e => by
        have e : x :: t = l1 ++ y :: l2 := by simpa using e
        have hlen : (l1 ++ l2).length = t.length := by
          have := congrArg List.length e
          simp at this ⊢; omega
        have hsub : (l1 ++ l2).Sublist (x :: t) := by rw [e]; exact (List.Sublist.refl l1).append (List.sublist_cons_self y l2)
        have := ih f (by omega) (l1 ++ l2) (by rw [hlen]; simp at hl; omega) (by rw [hlen]; simp at hev; omega) (hsub.nodup hnd'.2) (fun z hz => hm z (List.mem_cons_of_mem _ (hsub.subset hz)))
        rw [hlen] at this
        exact this)
      simp only [pfF]
      simp only [List.length_cons] at this hev ⊢
      refine ⟨by omega, ?_⟩
      exact this.2
theorem pfV_facts {A : Nat → Nat → Int} {m : Nat} (hA : SkT A m) (hm : m % 2 = 1) (h7 : m ≤ 7) {i : Nat} (hi : i < m) : pfV A m i % 2 = 1 ∧ -15 ≤ pfV A m i ∧ pfV A m i ≤ 15 := by
  have hsub : ((List.range m).eraseIdx i).Sublist (List.range m) := List.eraseIdx_sublist _ _
  have hlen : ((List.range m).eraseIdx i).length = m - 1 := by rw [List.length_eraseIdx_of_lt (by simpa using hi)]; simp
  have h := pfF_facts hA m ((List.range m).eraseIdx i) (by omega) (by omega) (hsub.nodup List.nodup_range) (fun x hx => by simpa using hsub.subset hx)
  rw [hlen] at h
  have hb : pfBd (m - 1) ≤ 15 := by
    have : m = 1 ∨ m = 3 ∨ m = 5 ∨ m = 7 := by omega
    rcases this with rfl | rfl | rfl | rfl <;> decide
  unfold pfV
  split <;> omega
theorem pf_ker {A : Nat → Nat → Int} {m : Nat} (hA : SkT A m) (hm : m % 2 = 1) (h7 : m ≤ 7) : kerV A m (pfV A m) := by
  have : m = 1 ∨ m = 3 ∨ m = 5 ∨ m = 7 := by omega
  rcases this with rfl | rfl | rfl | rfl
  · exact pf_ker1 hA
  · exact pf_ker3 hA
  · exact pf_ker5 hA
  · exact pf_ker7 hA
/-! positive, without common divisor -/
theorem gcdL_great {xs : List Int} {d : Nat} : (∀ x ∈ xs, d ∣ x.toNat) → d ∣ gcdL xs := by
  unfold gcdL
  have : ∀ (xs : List Int) (g : Nat), d ∣ g → (∀ x ∈ xs, d ∣ x.toNat) → d ∣ xs.foldl (fun g x => Nat.gcd g x.toNat) g := by
    intro xs
    induction xs with
    | nil => intro g h _; exact h
    | cons x xs ih => intro g h hx; exact ih _ (Nat.dvd_gcd h (hx x (by simp))) fun y hy => hx y (by simp [hy])
  exact this xs 0 (Nat.dvd_zero _)
theorem gcdL_mul (xs : List Int) (c : Nat) : gcdL (xs.map fun x => (c : Int) * x) = c * gcdL xs := by
  unfold gcdL
  have : ∀ (xs : List Int) (g : Nat), (xs.map fun x => (c : Int) * x).foldl (fun g x => Nat.gcd g x.toNat) (c * g) = c * xs.foldl (fun g x => Nat.gcd g x.toNat) g := by
    intro xs
    induction xs with
    | nil => intro g; rfl
    | cons x xs ih =>
      intro g
      rw [List.map_cons, List.foldl_cons, List.foldl_cons, ← ih]
      congr 1
      rw [show ((c : Int) * x).toNat = c * x.toNat by
        rcases Int.le_total 0 x with h | h
        · obtain ⟨y, rfl⟩ := Int.eq_ofNat_of_zero_le h
          rw [← Int.natCast_mul]; rfl
        · have h1 : (c : Int) * x ≤ 0 := Int.mul_nonpos_of_nonneg_of_nonpos (by omega) h
          rw [Int.toNat_of_nonpos h1, Int.toNat_of_nonpos h, Nat.mul_zero], Nat.gcd_mul_left]
  simpa using this xs 0
theorem gcdL_pos {xs : List Int} (h : ∃ x ∈ xs, 0 < x) : 0 < gcdL xs := by
  obtain ⟨x, hx, h0⟩ := h
  rcases Nat.eq_zero_or_pos (gcdL xs) with h1 | h1
  · have := gcdL_dvd xs x hx
    rw [h1] at this
    have := Nat.eq_zero_of_zero_dvd this
    omega
  · exact h1
/-- proportional rows come down to the same lowest row -/
theorem low_eq {xs ys : List Int} {c d : Nat} (hc : 0 < c) (hd : 0 < d) (he : xs.map (fun x => (c : Int) * x) = ys.map fun x => (d : Int) * x) : lowL xs = lowL ys := by
  have hlen : xs.length = ys.length := by have := congrArg List.length he; simpa using this
  have hgg : c * gcdL xs = d * gcdL ys := by rw [← gcdL_mul, ← gcdL_mul, he]
  unfold lowL
  refine List.ext_getElem (by simp [hlen]) fun i h1 h2 => ?_
  simp only [List.length_map] at h1 h2
  rw [List.getElem_map, List.getElem_map]
  have hi : (c : Int) * xs[i] = (d : Int) * ys[i] := by
    have := congrArg (fun l => l.getD i 0) he
    simpa [h1, h2] using this
  have hG : (c : Int) * (gcdL xs : Int) = (d : Int) * (gcdL ys : Int) := by exact_mod_cast hgg
  have e1 : xs[i] / (gcdL xs : Int) = ((c : Int) * xs[i]) / ((c : Int) * (gcdL xs : Int)) := (Int.mul_ediv_mul_of_pos _ _ (by omega)).symm
  have e2 : ys[i] / (gcdL ys : Int) = ((d : Int) * ys[i]) / ((d : Int) * (gcdL ys : Int)) := (Int.mul_ediv_mul_of_pos _ _ (by omega)).symm
  rw [e1, e2, hi, hG]
end Go.Proofs.YthoodjjjklbggaaDoor

namespace Go.Proofs.YthoodjjjklbggaaDoor
open Go.RowKit Go.Sort
set_option maxRecDepth 100000
section
variable {n : Nat} {xs : List Int}
theorem wins_n (hp : tourP n xs) {a : Nat} (ha : a < n) : winsN xs a < 2 ^ n := by
  have := (tour_wins hp (tour_len hp ▸ ha)).2.1
  rwa [show ((n : Int)).toNat = n from rfl] at this
theorem bt_hi (hp : tourP n xs) {a b : Nat} (ha : a < n) (hb : bt xs a b = true) : b < n := by
  rcases Nat.lt_or_ge b n with h | h
  · exact h
  · have := wins_hi hp (tour_len hp ▸ ha) (b := b) (by rw [tour_len hp]; exact h)
    unfold bt at hb
    rw [this] at hb; cases hb
/-- a king reaches everybody in two steps -/
theorem king_iff (hp : tourP n xs) {a : Nat} (ha : a < n) : kingN xs a = true ↔ ∀ c, c < n → c = a ∨ bt xs a c = true ∨ ∃ b, b < n ∧ bt xs a b = true ∧ bt xs b c = true := by
  have hl := tour_len hp
  have h8 : n ≤ 8 := by have := hp.1; omega
  have hb : ∀ c, (nearN xs a).testBit c = true ↔ (bt xs a c = true ∨ a = c) ∨ ∃ b, b < n ∧ bt xs a b = true ∧ bt xs b c = true := fun c => by
    unfold nearN
    rw [testBit_orK, Nat.testBit_or, Nat.testBit_two_pow]
    simp only [Bool.or_eq_true, decide_eq_true_eq, List.any_eq_true]
    constructor
    · rintro (h | ⟨b, hb, h⟩)
      · exact .inl h
      · have h2 := (mem_memN.1 hb).2
        exact .inr ⟨b, bt_hi hp ha h2, h2, h⟩
    · rintro (h | ⟨b, hb, h1, h2⟩)
      · exact .inl h
      · exact .inr ⟨b, mem_memN.2 ⟨by omega, h1⟩, h2⟩
  have hlt : nearN xs a < 2 ^ n := by
    have := orK_ltn (xs := xs) (fun b hb => by rw [hl]; exact wins_n hp (by rw [hl] at hb; exact hb)) (wins_mem hp (by omega : a < xs.length)) (S := winsN xs a ||| 2 ^ a) (by rw [hl]; exact Nat.or_lt_two_pow (wins_n hp ha) (Nat.pow_lt_pow_right (by decide) ha))
    rw [hl] at this
    exact this
  unfold kingN
  rw [hl, beq_iff_eq]
  constructor
  · intro e c hc
    have := hb c
    rw [e, testBit_full, decide_eq_true_eq] at this
    rcases this.1 hc with (h | h) | h
    · exact .inr (.inl h)
    · exact .inl h.symm
    · exact .inr (.inr h)
  · intro h
    refine Nat.eq_of_testBit_eq fun j => ?_
    rw [testBit_full]
    by_cases hj : j < n
    · rw [decide_eq_true hj]
      refine (hb j).2 ?_
      rcases h j hj with h | h | h
      · exact .inl (.inr h.symm)
      · exact .inl (.inl h)
      · exact .inr h
    · rw [decide_eq_false hj]
      exact Nat.testBit_lt_two_pow (Nat.lt_of_lt_of_le hlt (Nat.pow_le_pow_right (by decide) (by omega)))
theorem bt_flip (hp : tourP n xs) {a b : Nat} (ha : a < n) (hb : b < n) (hab : a ≠ b) : (bt xs a b = true ↔ bt xs b a = false) := by
  rw [(tr_bit hp ha hb).2 hab]
  cases bt xs b a <;> simp
theorem bt_asym (hp : tourP n xs) {a b : Nat} (ha : a < n) (hb : b < n) (h : bt xs a b = true) : bt xs b a = false ∧ a ≠ b := by
  have hab : a ≠ b := fun e => by rw [(tr_bit hp ha hb).1 e] at h; cases h
  exact ⟨(bt_flip hp ha hb hab).1 h, hab⟩
/-- c beats a, and all whom a beats -/
def cvN (xs : List Int) (n c a : Nat) : Prop := bt xs c a = true ∧ ∀ j, j < n → bt xs a j = true → bt xs c j = true
theorem king_cover (hp : tourP n xs) {a : Nat} (ha : a < n) : kingN xs a = false ↔ ∃ c, c < n ∧ cvN xs n c a := by
  constructor
  · intro hk
    have hk' : ¬ (∀ c, c < n → c = a ∨ bt xs a c = true ∨ ∃ b, b < n ∧ bt xs a b = true ∧ bt xs b c = true) := fun h => by rw [(king_iff hp ha).2 h] at hk; cases hk
    obtain ⟨c, hc⟩ := Classical.not_forall.1 hk'
    obtain ⟨hcn, h⟩ := Classical.not_imp.1 hc
    rw [not_or, not_or] at h
    obtain ⟨h1, h2, h3⟩ := h
    have hca : bt xs c a = true := (bt_flip hp hcn ha h1).2 (by simpa using h2)
    refine ⟨c, hcn, hca, fun j hj haj => ?_⟩
    have hcj : c ≠ j := fun e => by subst e; exact h2 haj
    refine (bt_flip hp hcn hj hcj).2 ?_
    rcases q : bt xs j c with _ | _
    · rfl
    · exact absurd ⟨j, hj, haj, q⟩ h3
  · rintro ⟨c, hc, h1, h2⟩
    rcases q : kingN xs a with _ | _
    · rfl
    · exfalso
      have hac := bt_asym hp hc ha h1
      rcases (king_iff hp ha).1 q c hc with h | h | ⟨b, hb, h3, h4⟩
      · exact hac.2 h
      · rw [hac.1] at h; cases h
      · have := h2 b hb h3
        rw [(bt_asym hp hb hc h4).1] at this; cases this
theorem kst_mem (hp : tourP n xs) {a b : Nat} : b ∈ loseN xs a xs.length ↔ b < n ∧ bt xs b a = true := by
  rw [mem_loseN, tour_len hp]
  constructor
  · rintro ⟨h1, h2⟩
    exact ⟨h1, by rw [← bitI_bt (tour_wins hp (by rw [tour_len hp]; exact h1)).1]; exact h2⟩
  · rintro ⟨h1, h2⟩
    exact ⟨h1, by rw [bitI_bt (tour_wins hp (by rw [tour_len hp]; exact h1)).1]; exact h2⟩
/-- the step: to a king who beats a, if anybody does -/
theorem kst_king (hp : tourP n xs) {a : Nat} (ha : a < n) (hex : ∃ b, b < n ∧ bt xs b a = true) : kstepN xs a < n ∧ bt xs (kstepN xs a) a = true ∧ kingN xs (kstepN xs a) = true := by
  have hself : a ∉ loseN xs a xs.length := fun h => by have := (kst_mem hp).1 h; rw [(tr_bit hp ha ha).1 rfl] at this; cases this.2
  rcases kstK_best (xs := xs) hself with ⟨e, _⟩ | ⟨hm, hx⟩
  · obtain ⟨b, hb, h⟩ := hex
    have := (kst_mem hp).2 ⟨hb, h⟩
    rw [e] at this; cases this
  · have hm' := (kst_mem hp).1 hm
    change kstepN xs a < n ∧ _ at hm'
    refine ⟨hm'.1, hm'.2, ?_⟩
    rcases q : kingN xs (kstepN xs a) with _ | _
    · exfalso
      obtain ⟨c, hc, h1, h2⟩ := (king_cover hp hm'.1).1 q
      have hca := h2 a ha hm'.2
      have h3 : popN 8 (winsN xs c) ≤ popN 8 (winsN xs (kstepN xs a)) := hx c ((kst_mem hp).2 ⟨hc, hca⟩)
      have e1 := sc_sum hp hc
      have e2 := sc_sum hp hm'.1
      have hle : sumN (fun b => if bt xs (kstepN xs a) b = true then (1 : Int) else 0) n + 1 ≤ sumN (fun b => if bt xs c b = true then (1 : Int) else 0) n := by
        have e3 : sumN (fun b => (if bt xs (kstepN xs a) b = true then (1 : Int) else 0) + (if b = kstepN xs a then 1 else 0)) n = sumN (fun b => if bt xs (kstepN xs a) b = true then (1 : Int) else 0) n + 1 := by
          rw [sumN_add, sumN_one hm'.1 (fun k _ hk => if_neg hk), if_pos rfl]
        rw [← e3]
        have : ∀ m, m ≤ n → sumN (fun b => (if bt xs (kstepN xs a) b = true then (1 : Int) else 0) + (if b = kstepN xs a then 1 else 0)) m ≤ sumN (fun b => if bt xs c b = true then (1 : Int) else 0) m := by
          intro m
          induction m with
          | zero => intro _; simp [sumN]
          | succ m ih =>
            intro hm
            have ih := ih (by omega)
            rw [sumN, sumN]
            have : (if bt xs (kstepN xs a) m = true then (1 : Int) else 0) + (if m = kstepN xs a then 1 else 0) ≤ if bt xs c m = true then (1 : Int) else 0 := by
              by_cases e : m = kstepN xs a
              · rw [if_pos e, e, (tr_bit hp hm'.1 hm'.1).1 rfl, if_pos h1]; simp
              · rw [if_neg e]
                rcases q2 : bt xs (kstepN xs a) m with _ | _
                · simp; split <;> omega
                · rw [h2 m (by omega) q2]; simp
            omega
        exact this n (Nat.le_refl _)
      rw [← e1, ← e2] at hle
      unfold scN at hle
      omega
    · rfl
theorem kst_none {a : Nat} (hp : tourP n xs) (hno : ∀ b, b < n → bt xs b a = false) : kstepN xs a = a := by
  have : loseN xs a xs.length = [] := List.eq_nil_iff_forall_not_mem.2 fun b hb => by
    have := (kst_mem hp).1 hb
    rw [hno b this.1] at this; cases this.2
  unfold kstepN
  rw [this]
  rfl
/-- the set of kings -/
def kgS (xs : List Int) (n : Nat) : Nat := setOf (fun a => kingN xs a) n
theorem kg_bit {a : Nat} : (kgS xs n).testBit a = true ↔ a < n ∧ kingN xs a = true := by
  unfold kgS
  rw [testBit_setOf]
  simp
theorem kg_lt : kgS xs n < 2 ^ n := setOf_lt _ _
/-- a sovereign beats everybody -/
def svP (xs : List Int) (n a : Nat) : Prop := a < n ∧ ∀ b, b < n → bt xs b a = false
theorem sv_score (hp : tourP n xs) {a : Nat} (ha : a < n) : scN xs a = n - 1 ↔ svP xs n a := by
  have h := by_sum hp ha
  constructor
  · intro e
    have h0 : sumN (fun b => if bt xs b a = true then (1 : Int) else 0) n = 0 := by omega
    refine ⟨ha, fun b hb => ?_⟩
    rcases q : bt xs b a with _ | _
    · rfl
    · exfalso
      have h1 : sumN (fun k => if k = b then (1 : Int) else 0) n ≤ sumN (fun b => if bt xs b a = true then (1 : Int) else 0) n := by
        have : 0 ≤ sumN (fun k => (if bt xs k a = true then (1 : Int) else 0) - if k = b then 1 else 0) n := sumN_nonneg fun k hk => by
          by_cases e : k = b
          · subst e; rw [q]; simp
          · rw [if_neg e]; split <;> omega
        rw [sumN_sub] at this
        omega
      rw [sumN_one hb (fun k _ hk => if_neg hk), if_pos rfl] at h1
      omega
  · rintro ⟨-, h1⟩
    have h0 : sumN (fun b => if bt xs b a = true then (1 : Int) else 0) n = 0 := sumN_zero' fun b hb => by rw [h1 b hb]; rfl
    omega
theorem sv_king (hp : tourP n xs) {a : Nat} (h : svP xs n a) : ∀ b, b < n → (kingN xs b = true ↔ b = a) := by
  intro b hb
  have hall : ∀ c, c < n → c ≠ a → bt xs a c = true := fun c hc hca => (bt_flip hp h.1 hc (Ne.symm hca)).2 (h.2 c hc)
  constructor
  · intro hk
    refine Classical.byContradiction fun hba => ?_
    rcases (king_iff hp hb).1 hk a h.1 with e | e | ⟨c, hc, -, e⟩
    · exact hba e.symm
    · rw [h.2 b hb] at e; cases e
    · rw [h.2 c hc] at e; cases e
  · rintro rfl
    refine (king_iff hp hb).2 fun c hc => ?_
    by_cases e : c = b
    · exact .inl e
    · exact .inr (.inl (hall c hc e))
theorem king_ex (hp : tourP n xs) : ∃ a, a < n ∧ kingN xs a = true := by
  have hn : 0 < n := by have := hp.1; omega
  by_cases h : ∃ b, b < n ∧ bt xs b 0 = true
  · have := kst_king hp hn h
    exact ⟨_, this.1, this.2.2⟩
  · have hs : svP xs n 0 := ⟨hn, fun b hb => by
      rcases q : bt xs b 0 with _ | _
      · rfl
      · exact absurd ⟨b, hb, q⟩ h⟩
    exact ⟨0, hn, (sv_king hp hs 0 hn).2 rfl⟩
theorem three_len {l : List Nat} {a b c : Nat} (ha : a ∈ l) (hb : b ∈ l) (hc : c ∈ l) (h1 : a ≠ b) (h2 : a ≠ c) (h3 : b ≠ c) : 3 ≤ l.length := by
  have e1 := List.length_erase_of_mem ha
  have hb' : b ∈ l.erase a := (List.mem_erase_of_ne (Ne.symm h1)).2 hb
  have hc' : c ∈ l.erase a := (List.mem_erase_of_ne (Ne.symm h2)).2 hc
  have e2 := List.length_erase_of_mem hb'
  have hc'' : c ∈ (l.erase a).erase b := (List.mem_erase_of_ne (Ne.symm h3)).2 hc'
  have e3 := List.length_pos_of_mem hc''
  omega
/-- one king, who is the sovereign, or three at least -/
theorem king_three (hp : tourP n xs) (hno : ∀ a, ¬ svP xs n a) : 3 ≤ popN 8 (kgS xs n) := by
  have h8 : n ≤ 8 := by have := hp.1; omega
  have hdom : ∀ a, a < n → ∃ b, b < n ∧ bt xs b a = true := fun a ha => by
    refine Classical.byContradiction fun h => hno a ⟨ha, fun b hb => ?_⟩
    rcases q : bt xs b a with _ | _
    · rfl
    · exact absurd ⟨b, hb, q⟩ h
  obtain ⟨a, ha, ka⟩ := king_ex hp
  obtain ⟨hb, ba, kb⟩ := kst_king hp ha (hdom a ha)
  generalize kstepN xs a = b at *
  obtain ⟨hc, cb, kc⟩ := kst_king hp hb (hdom b hb)
  generalize kstepN xs b = c at *
  have h256 : kgS xs n < 256 := Nat.lt_of_lt_of_le kg_lt (Nat.pow_le_pow_right (n := 2) (j := 8) (by decide) h8)
  rw [pop_mem h256]
  have hca : c ≠ a := fun e => by subst e; rw [(bt_asym hp hc hb cb).1] at ba; cases ba
  exact three_len (a := a) (b := b) (c := c) (mem_memN.2 ⟨by omega, kg_bit.2 ⟨ha, ka⟩⟩) (mem_memN.2 ⟨by omega, kg_bit.2 ⟨hb, kb⟩⟩) (mem_memN.2 ⟨by omega, kg_bit.2 ⟨hc, kc⟩⟩) (Ne.symm (bt_asym hp hb ha ba).2) (Ne.symm hca) (Ne.symm (bt_asym hp hc hb cb).2)
theorem sv_kings (hp : tourP n xs) {a : Nat} (h : svP xs n a) : kgS xs n = 2 ^ a := by
  refine Nat.eq_of_testBit_eq fun j => ?_
  rw [Nat.testBit_two_pow]
  rw [Bool.eq_iff_iff, kg_bit, decide_eq_true_eq]
  constructor
  · rintro ⟨hj, hk⟩; exact ((sv_king hp h j hj).1 hk).symm
  · rintro rfl; exact ⟨h.1, (sv_king hp h a h.1).2 rfl⟩
theorem pop_pow {a : Nat} (h : a < 8) : popN 8 (2 ^ a) = 1 := by
  have : ∀ a : Fin 8, popN 8 (2 ^ a.1) = 1 := by decide
  exact this ⟨a, h⟩
end
end Go.Proofs.YthoodjjjklbggaaDoor

namespace Go.Proofs.YthoodjjjklbggaaDoor
set_option maxRecDepth 100000
def bndG : Nat → Nat
  | 0 => 1
  | 1 => 2
  | 2 => 4
  | 3 => 32
  | 4 => 2048
  | 5 => 8388608
  | _ => 140737488355328
/-- a row without common divisor, or no entry but 0 -/
def primR (n : Nat) (o : Nat → Int) : Prop := ∀ d : Nat, (∀ i, i < n → (d : Int) ∣ o i) → d = 1 ∨ ∀ i, i < n → o i = 0
/-- column c is removed from row a by row b -/
def RedP (n : Nat) (a b : Nat → Int) (c : Nat) (o : Nat → Int) : Prop := (∃ g : Nat, 1 ≤ g ∧ ∀ i, i < n → (g : Int) * o i = a i * b c - b i * a c) ∧ primR n o
structure GsS (A : Nat → Nat → Int) (n c : Nat) (M : Nat → Nat → Int) : Prop where
  sol : ∀ w, kerV A n w → ∀ r, r < n → sumN (fun i => M r i * w i) n = 0
  los : ∀ w, (∀ r, r < n → sumN (fun i => M r i * w i) n = 0) → kerV A n w
  zero : ∀ r j, r < n → j < n → j < c → j ≠ r → M r j = 0
  piv : ∀ r, r < c → M r r ≠ 0
  bd : ∀ r i, r < n → i < n → (M r i).natAbs ≤ bndG c
  col : c ≤ 1 → c < n → ∀ r, r < n → (M r c).natAbs ≤ 1
  ini : c = 0 → ∀ r i, r < n → i < n → M r i = A i r
  prim : ∀ r, r < n → primR n (M r)
theorem one_of_dvd {d : Nat} {x : Int} (h : (d : Int) ∣ x) (hx : x = 1 ∨ x = -1) : d = 1 := by
  have h1 : d ∣ 1 := by
    rcases hx with rfl | rfl
    · exact Int.natCast_dvd_natCast.1 h
    · have := (Int.dvd_neg (a := (d : Int)) (b := 1)).1 h
      exact Int.natCast_dvd_natCast.1 this
  exact Nat.dvd_one.1 h1
theorem gs_start {A : Nat → Nat → Int} {n : Nat} (hA : SkT A n) : GsS A n 0 fun r i => A i r where
  sol := fun w h r hr => h r hr
  los := fun w h r hr => h r hr
  zero := fun r j _ _ h => absurd h (by omega)
  piv := fun r h => absurd h (by omega)
  bd := fun r i hr hi => by
    by_cases e : i = r
    · subst e; rw [hA.diag i hi]; decide
    · rcases hA.one i r hi hr e with h | h <;> rw [h] <;> decide
  col := fun _ hc r hr => by
    by_cases e : 0 = r
    · subst e; rw [hA.diag 0 hr]; decide
    · rcases hA.one 0 r hc hr e with h | h <;> rw [h] <;> decide
  ini := fun _ r i _ _ => rfl
  prim := fun r hr d h => by
    by_cases hn : n = 1
    · right
      intro i hi
      obtain rfl : i = r := by omega
      exact hA.diag i hi
    · left
      obtain ⟨i, hi, hir⟩ : ∃ i, i < n ∧ i ≠ r := by
        by_cases e : r = 0
        · exact ⟨1, by omega, by omega⟩
        · exact ⟨0, by omega, by omega⟩
      exact one_of_dvd (h i hi) (hA.one i r hi hr hir)
theorem red_sum {n c : Nat} {a b o : Nat → Int} {g : Nat} (h : ∀ i, i < n → (g : Int) * o i = a i * b c - b i * a c) (w : Nat → Int) :
    (g : Int) * sumN (fun i => o i * w i) n = b c * sumN (fun i => a i * w i) n - a c * sumN (fun i => b i * w i) n := by
  rw [← sumN_mul, ← sumN_mul, ← sumN_mul, ← sumN_sub]
  refine sumN_congr fun i hi => ?_
  rw [← Int.mul_assoc, h i hi, Int.sub_mul, ← Int.mul_assoc, ← Int.mul_assoc, Int.mul_comm (b c), Int.mul_comm (a c)]
theorem abs_le_of {g : Nat} {o z : Int} (hg : 1 ≤ g) (h : (g : Int) * o = z) {B : Nat} (hz : z.natAbs ≤ B) : o.natAbs ≤ B := by
  have h1 : g * o.natAbs = z.natAbs := by rw [← h, Int.natAbs_mul, Int.natAbs_natCast]
  have h2 : 1 * o.natAbs ≤ g * o.natAbs := Nat.mul_le_mul_right _ hg
  omega
theorem abs_det {x y z u : Int} {X Y Z U : Nat} (h1 : x.natAbs ≤ X) (h2 : y.natAbs ≤ Y) (h3 : z.natAbs ≤ Z) (h4 : u.natAbs ≤ U) : (x * y - z * u).natAbs ≤ X * Y + Z * U := by
  have e1 : (x * y).natAbs ≤ X * Y := by rw [Int.natAbs_mul]; exact Nat.mul_le_mul h1 h2
  have e2 : (z * u).natAbs ≤ Z * U := by rw [Int.natAbs_mul]; exact Nat.mul_le_mul h3 h4
  omega
theorem bnd_sq : ∀ c, c < 6 → 2 ≤ c → 2 * (bndG c * bndG c) ≤ bndG (c + 1) := by decide
theorem bnd_mono : ∀ c, c < 6 → 2 * bndG c ≤ bndG (c + 1) := by decide
theorem red_bd {A M : Nat → Nat → Int} {n c : Nat} (h : GsS A n c M) (hc : c + 1 < n) (h7 : n ≤ 7) {s p i : Nat} (hs : s < n) (hp : p < n) (hi : i < n) :
    (M s i * M p c - M p i * M s c).natAbs ≤ bndG (c + 1) := by
  by_cases h1 : c ≤ 1
  · have := abs_det (h.bd s i hs hi) (h.col h1 (by omega) p hp) (h.bd p i hp hi) (h.col h1 (by omega) s hs)
    have := bnd_mono c (by omega)
    omega
  · have := abs_det (h.bd s i hs hi) (h.bd p c hp (by omega)) (h.bd p i hp hi) (h.bd s c hs (by omega))
    have := bnd_sq c (by omega) (by omega)
    omega
theorem gs_step {A M M' : Nat → Nat → Int} {n c p : Nat} (hA : SkT A n) (h : GsS A n c M) (hc : c + 1 < n) (h7 : n ≤ 7) (hcp : c ≤ p) (hp : p < n) (hpc : M p c ≠ 0) (hfirst : ∀ q, c ≤ q → q < p → M q c = 0)
    (h1 : ∀ i, i < n → M' c i = M p i)
    (h2 : ∀ r, r < n → r ≠ c → (M (if r = p then c else r) c = 0 → ∀ i, i < n → M' r i = M (if r = p then c else r) i) ∧ (M (if r = p then c else r) c ≠ 0 → RedP n (M (if r = p then c else r)) (M p) c (M' r))) : GsS A n (c + 1) M' := by
  have hs : ∀ r, r < n → r ≠ c → ∃ s, s < n ∧ s = (if r = p then c else r) ∧ s ≠ p := fun r hr hrc => by
    by_cases e : r = p
    · exact ⟨c, by omega, by rw [if_pos e], by omega⟩
    · exact ⟨r, hr, by rw [if_neg e], e⟩
  refine ⟨?_, ?_, ?_, ?_, ?_, ?_, fun h => absurd h (by omega), ?_⟩
  · intro w hw r hr
    by_cases hrc : r = c
    · subst hrc
      rw [sumN_congr (g := fun i => M p i * w i) fun i hi => by rw [h1 i hi]]
      exact h.sol w hw p hp
    · obtain ⟨s, hsn, hse, -⟩ := hs r hr hrc
      obtain ⟨q1, q2⟩ := h2 r hr hrc
      rw [← hse] at q1 q2
      by_cases q : M s c = 0
      · rw [sumN_congr (g := fun i => M s i * w i) fun i hi => by rw [q1 q i hi]]
        exact h.sol w hw s hsn
      · obtain ⟨⟨g, hg, hgo⟩, -⟩ := q2 q
        have := red_sum hgo w
        rw [h.sol w hw s hsn, h.sol w hw p hp, Int.mul_zero, Int.mul_zero, Int.sub_zero] at this
        rcases Int.mul_eq_zero.1 this with e | e
        · omega
        · exact e
  · intro w hw
    have hpz : sumN (fun i => M p i * w i) n = 0 := by
      rw [← sumN_congr (f := fun i => M' c i * w i) fun i hi => by rw [h1 i hi]]
      exact hw c (by omega)
    refine h.los w fun t ht => ?_
    by_cases htp : t = p
    · subst htp; exact hpz
    · obtain ⟨r, hr, hrc, hrt⟩ : ∃ r, r < n ∧ r ≠ c ∧ t = (if r = p then c else r) := by
        by_cases e : t = c
        · exact ⟨p, hp, fun e2 => htp (by omega), by rw [if_pos rfl]; exact e⟩
        · exact ⟨t, ht, e, by rw [if_neg htp]⟩
      obtain ⟨q1, q2⟩ := h2 r hr hrc
      rw [← hrt] at q1 q2
      by_cases q : M t c = 0
      · rw [← sumN_congr (f := fun i => M' r i * w i) fun i hi => by rw [q1 q i hi]]
        exact hw r hr
      · obtain ⟨⟨g, hg, hgo⟩, -⟩ := q2 q
        have := red_sum hgo w
        rw [hw r hr, hpz, Int.mul_zero, Int.mul_zero, Int.sub_zero] at this
        rcases Int.mul_eq_zero.1 this.symm with e | e
        · exact absurd e hpc
        · exact e
  · intro r j hr hj hjc hjr
    by_cases hrc : r = c
    · subst hrc
      rw [h1 j hj]
      exact h.zero p j hp hj (by omega) (by omega)
    · obtain ⟨s, hsn, hse, hsp⟩ := hs r hr hrc
      obtain ⟨q1, q2⟩ := h2 r hr hrc
      rw [← hse] at q1 q2
      have hjs : j < c → M s j = 0 ∧ M p j = 0 := fun hj' => ⟨h.zero s j hsn hj hj' (by
        rw [hse]; split
        · omega
        · exact hjr), h.zero p j hp hj hj' (by omega)⟩
      by_cases q : M s c = 0
      · rw [q1 q j hj]
        by_cases e : j = c
        · subst e; exact q
        · exact (hjs (by omega)).1
      · obtain ⟨⟨g, hg, hgo⟩, -⟩ := q2 q
        have := hgo j hj
        have hz : M s j * M p c - M p j * M s c = 0 := by
          by_cases e : j = c
          · subst e; rw [Int.mul_comm]; omega
          · obtain ⟨e1, e2⟩ := hjs (by omega)
            rw [e1, e2]; simp
        rw [hz] at this
        rcases Int.mul_eq_zero.1 this with e | e
        · omega
        · exact e
  · intro r hr
    by_cases hrc : r = c
    · subst hrc
      rw [h1 r (by omega)]; exact hpc
    · obtain ⟨q1, q2⟩ := h2 r (by omega) hrc
      rw [if_neg (by omega)] at q1 q2
      have hp0 := h.piv r (by omega)
      by_cases q : M r c = 0
      · rw [q1 q r (by omega)]; exact hp0
      · obtain ⟨⟨g, hg, hgo⟩, -⟩ := q2 q
        have := hgo r (by omega)
        rw [h.zero p r hp (by omega) (by omega) (by omega), Int.zero_mul, Int.sub_zero] at this
        intro e
        rw [e, Int.mul_zero] at this
        rcases Int.mul_eq_zero.1 this.symm with e1 | e1
        · exact hp0 e1
        · exact hpc e1
  · intro r i hr hi
    have hmono := bnd_mono c (by omega)
    by_cases hrc : r = c
    · subst hrc
      rw [h1 i hi]
      have := h.bd p i hp hi
      omega
    · obtain ⟨s, hsn, hse, -⟩ := hs r hr hrc
      obtain ⟨q1, q2⟩ := h2 r hr hrc
      rw [← hse] at q1 q2
      by_cases q : M s c = 0
      · rw [q1 q i hi]
        have := h.bd s i hsn hi
        omega
      · obtain ⟨⟨g, hg, hgo⟩, -⟩ := q2 q
        exact abs_le_of hg (hgo i hi) (red_bd h hc h7 hsn hp hi)
  · intro hc1 _ r hr
    obtain rfl : c = 0 := by omega
    have hini := h.ini rfl
    have hp1 : p = 1 := by
      have a0 : p ≠ 0 := fun e => hpc (by subst e; rw [hini 0 0 hp hp]; exact hA.diag 0 hp)
      refine Nat.le_antisymm (Nat.le_of_not_lt fun h' => ?_) (by omega)
      have := hfirst 1 (by omega) h'
      rw [hini 1 0 (by omega) (by omega)] at this
      rcases hA.one 0 1 (by omega) (by omega) (by omega) with e | e <;> omega
    subst hp1
    have h11 : M 1 1 = 0 := by rw [hini 1 1 (by omega) (by omega)]; exact hA.diag 1 (by omega)
    by_cases hrc : r = 0
    · subst hrc
      rw [h1 1 (by omega), h11]; decide
    · obtain ⟨s, hsn, hse, -⟩ := hs r hr hrc
      obtain ⟨q1, q2⟩ := h2 r hr hrc
      rw [← hse] at q1 q2
      have hb := h.bd s 1 hsn (by omega)
      by_cases q : M s 0 = 0
      · rw [q1 q 1 (by omega)]; exact hb
      · obtain ⟨⟨g, hg, hgo⟩, -⟩ := q2 q
        have := hgo 1 (by omega)
        refine abs_le_of hg this ?_
        rw [h11, Int.zero_mul, Int.sub_zero, Int.natAbs_mul]
        have := Nat.mul_le_mul hb (h.col (by omega) (by omega) 1 (by omega))
        exact this
  · intro r hr
    by_cases hrc : r = c
    · subst hrc
      intro d hd
      rcases h.prim p hp d (fun i hi => by rw [← h1 i hi]; exact hd i hi) with e | e
      · exact .inl e
      · exact .inr fun i hi => by rw [h1 i hi]; exact e i hi
    · obtain ⟨s, hsn, hse, -⟩ := hs r hr hrc
      obtain ⟨q1, q2⟩ := h2 r hr hrc
      rw [← hse] at q1 q2
      by_cases q : M s c = 0
      · intro d hd
        rcases h.prim s hsn d (fun i hi => by rw [← q1 q i hi]; exact hd i hi) with e | e
        · exact .inl e
        · exact .inr fun i hi => by rw [q1 q i hi]; exact e i hi
      · exact (q2 q).2
def prodZ (f : Nat → Int) : Nat → Int
  | 0 => 1
  | k + 1 => prodZ f k * f k
theorem prod_nz {f : Nat → Int} : ∀ {k}, (∀ i, i < k → f i ≠ 0) → prodZ f k ≠ 0 := by
  intro k
  induction k with
  | zero => intro _; show (1 : Int) ≠ 0; decide
  | succ k ih =>
    intro h e
    rcases Int.mul_eq_zero.1 e with e | e
    · exact ih (fun i hi => h i (by omega)) e
    · exact h k (by omega) e
theorem prod_dvd {f : Nat → Int} {i : Nat} : ∀ {k}, i < k → ∃ q, f i * q = prodZ f k := by
  intro k
  induction k with
  | zero => intro h; omega
  | succ k ih =>
    intro h
    by_cases e : i = k
    · subst e; exact ⟨prodZ f i, Int.mul_comm _ _⟩
    · obtain ⟨q, hq⟩ := ih (by omega)
      exact ⟨q * f k, by rw [← Int.mul_assoc, hq]; rfl⟩
/-- there is a pivot in each column but the last one -/
theorem gs_piv {A M : Nat → Nat → Int} {n c : Nat} (hA : SkT A n) (h : GsS A n c M) (hc : c + 1 < n) : ∃ p, c ≤ p ∧ p < n ∧ M p c ≠ 0 := by
  refine Classical.byContradiction fun hno => ?_
  have hz : ∀ q, c ≤ q → q < n → M q c = 0 := fun q h1 h2 => Classical.byContradiction fun e => hno ⟨q, h1, h2, e⟩
  obtain ⟨P, hP⟩ : ∃ P, P = prodZ (fun r => M r r) c := ⟨_, rfl⟩
  have hP0 : P ≠ 0 := by rw [hP]; exact prod_nz fun i hi => h.piv i hi
  have hq : ∀ i, ∃ q, i < c → M i i * q = P := fun i => by
    by_cases hi : i < c
    · obtain ⟨q, hq⟩ := prod_dvd (f := fun r => M r r) hi
      exact ⟨q, fun _ => by rw [hP]; exact hq⟩
    · exact ⟨0, fun h => absurd h hi⟩
  obtain ⟨q, hq⟩ := Classical.axiomOfChoice hq
  have hw : kerV A n fun i => if i < c then -(M i c) * q i else if i = c then P else 0 := by
    refine h.los _ fun r hr => ?_
    by_cases hrc : r < c
    · rw [sumN_two (a := r) (b := c) hr (by omega) (by omega) (fun k hk h1 h2 => ?_)]
      · rw [if_pos hrc, if_neg (by omega), if_pos rfl]
        have := hq r hrc
        rw [Int.neg_mul, Int.mul_neg, ← Int.mul_assoc, Int.mul_comm (M r r), Int.mul_assoc, this]
        omega
      · by_cases e : k < c
        · rw [h.zero r k hr hk e h1, Int.zero_mul]
        · rw [if_neg e, if_neg h2, Int.mul_zero]
    · refine sumN_zero' fun k hk => ?_
      by_cases e : k < c
      · rw [h.zero r k hr hk e (by omega), Int.zero_mul]
      · rw [if_neg e]
        split
        · rename_i e2; subst e2; rw [hz r (by omega) hr, Int.zero_mul]
        · exact Int.mul_zero _
  have := ker_zero hA hw (a0 := n - 1) (by omega) (by rw [if_neg (by omega), if_neg (by omega)]) c (by omega)
  rw [if_neg (by omega), if_pos rfl] at this
  exact hP0 this
/-- behind the last pivot: each row tells one entry by the last one -/
theorem gs_end {A M : Nat → Nat → Int} {n : Nat} (hA : SkT A n) (hodd : n % 2 = 1) (h7 : n ≤ 7) (h : GsS A n (n - 1) M) :
    M (n - 1) (n - 1) = 0 ∧ ∀ r, r < n - 1 → M r r ≠ 0 ∧ M r r * pfV A n r = -(M r (n - 1)) * pfV A n (n - 1) ∧ (M r r) ∣ pfV A n (n - 1) ∧ (M r r).natAbs ≤ 15 ∧ (M r (n - 1)).natAbs ≤ 15 := by
  have hk := pf_ker hA hodd h7
  have hv := fun i (hi : i < n) => pfV_facts hA hodd h7 hi
  have hlast := hv (n - 1) (by omega)
  constructor
  · have h1 := h.sol _ hk (n - 1) (by omega)
    rw [sumN_one (a := n - 1) (by omega) fun k hk1 h2 => by rw [h.zero (n - 1) k (by omega) hk1 (by omega) h2, Int.zero_mul]] at h1
    rcases Int.mul_eq_zero.1 h1 with e | e
    · exact e
    · omega
  · intro r hr
    have hp := h.piv r hr
    have hvr := hv r (by omega)
    have h1 := h.sol _ hk r (by omega)
    rw [sumN_two (a := r) (b := n - 1) (by omega) (by omega) (by omega) fun k hk1 h2 h3 => by rw [h.zero r k (by omega) hk1 (by omega) h2, Int.zero_mul]] at h1
    have h2 : M r r * pfV A n r = -(M r (n - 1)) * pfV A n (n - 1) := by rw [Int.neg_mul]; omega
    have hcop : Nat.Coprime (M r r).natAbs (M r (n - 1)).natAbs := by
      rcases h.prim r (by omega) (Nat.gcd (M r r).natAbs (M r (n - 1)).natAbs) (fun i hi => by
        by_cases e1 : i = r
        · subst e1; exact Int.ofNat_dvd_left.2 (Nat.gcd_dvd_left _ _)
        · by_cases e2 : i = n - 1
          · subst e2; exact Int.ofNat_dvd_left.2 (Nat.gcd_dvd_right _ _)
          · rw [h.zero r i (by omega) hi (by omega) e1]; exact Int.dvd_zero _) with e | e
      · exact e
      · exact absurd (e r (by omega)) hp
    have habs : (M r r).natAbs * (pfV A n r).natAbs = (M r (n - 1)).natAbs * (pfV A n (n - 1)).natAbs := by
      have := congrArg Int.natAbs h2
      rwa [Int.natAbs_mul, Int.natAbs_mul, Int.natAbs_neg] at this
    have hd1 : (M r r).natAbs ∣ (pfV A n (n - 1)).natAbs := hcop.dvd_of_dvd_mul_left (habs ▸ Nat.dvd_mul_right _ _)
    have hd2 : (M r (n - 1)).natAbs ∣ (pfV A n r).natAbs := hcop.symm.dvd_of_dvd_mul_left (habs ▸ Nat.dvd_mul_right _ _)
    refine ⟨hp, h2, Int.natAbs_dvd_natAbs.1 hd1, ?_, ?_⟩
    · have := Nat.le_of_dvd (by omega) hd1; omega
    · have := Nat.le_of_dvd (by omega) hd2; omega
end Go.Proofs.YthoodjjjklbggaaDoor

namespace Go.Proofs.YthoodjjjklbggaaDoor
open Go.RowKit Go.Sort
set_option maxRecDepth 100000
def redX (xs ys : List Int) (c i : Nat) : Int := xs.getD i 0 * ys.getD c 0 - ys.getD i 0 * xs.getD c 0
def redO (xs ys : List Int) (c k : Nat) : List Int := (List.range k).map (redX xs ys c)
theorem redO_succ (xs ys : List Int) (c k : Nat) : redO xs ys c (k + 1) = redO xs ys c k ++ [redX xs ys c k] := by simp [redO, List.range_succ]
theorem redO_len (xs ys : List Int) (c k : Nat) : (redO xs ys c k).length = k := by simp [redO]
def gcdA (l : List Int) : Nat := l.foldl (fun g x => Nat.gcd g x.natAbs) 0
theorem gcdA_snoc (l : List Int) (x : Int) : gcdA (l ++ [x]) = Nat.gcd (gcdA l) x.natAbs := by simp [gcdA]
def redL (xs ys : List Int) (c : Nat) : List Int := if 1 < gcdA (redO xs ys c xs.length) then (redO xs ys c xs.length).map fun x => x.tdiv (gcdA (redO xs ys c xs.length)) else redO xs ys c xs.length
theorem redX_bd {xs ys : List Int} {c i : Nat} {B : Nat} (hx : ∀ j, (xs.getD j 0).natAbs ≤ B) (hy : ∀ j, (ys.getD j 0).natAbs ≤ B) : (xs.getD i 0 * ys.getD c 0).natAbs ≤ B * B ∧ (ys.getD i 0 * xs.getD c 0).natAbs ≤ B * B ∧ (redX xs ys c i).natAbs ≤ 2 * (B * B) := by
  have e1 : (xs.getD i 0 * ys.getD c 0).natAbs ≤ B * B := by rw [Int.natAbs_mul]; exact Nat.mul_le_mul (hx i) (hy c)
  have e2 : (ys.getD i 0 * xs.getD c 0).natAbs ≤ B * B := by rw [Int.natAbs_mul]; exact Nat.mul_le_mul (hy i) (hx c)
  refine ⟨e1, e2, ?_⟩
  unfold redX
  omega
theorem gcdA_le {B : Nat} : ∀ {l : List Int}, (∀ x ∈ l, x.natAbs ≤ B) → gcdA l ≤ B := by
  have : ∀ (l : List Int) (g : Nat), g ≤ B → (∀ x ∈ l, x.natAbs ≤ B) → l.foldl (fun g x => Nat.gcd g x.natAbs) g ≤ B := by
    intro l
    induction l with
    | nil => intro g h _; exact h
    | cons x l ih => intro g h hx; exact ih _ (gcd_le_bd h (hx x (by simp))) fun y hy => hx y (by simp [hy])
  intro l h
  exact this l 0 (Nat.zero_le _) h
theorem rd_cell0 {w : World} {g off c n : Nat} {L : List Int} (h : Rd w (.slice (some ⟨g, off, none⟩) n c) L) (hl : L.length = n) {i : Nat} (hi : i < n) : w.cell? ⟨g, off + i, none⟩ = some (.int .i64 (L.getD i 0)) := by
  obtain ⟨A', c', e, -, -, hx⟩ := h
  injection e with e1 _ _
  subst e1
  obtain ⟨g', off', e', -, hc⟩ := hx (by omega)
  injection e' with e'
  injection e' with e1 e2 _
  subst e1 e2
  exact hc i (by omega)
theorem tdiv_bd {x G : Int} (h1 : -140737488355328 ≤ x) (h2 : x ≤ 140737488355328) : -9223372036854775808 ≤ x.tdiv G ∧ x.tdiv G ≤ 9223372036854775807 := by
  have := Int.natAbs_tdiv_le_natAbs x G
  omega
end Go.Proofs.YthoodjjjklbggaaDoor

