/- Texts put together: Tri, SumN, Tail, Rep, Frame, Res, Lg, Ls, Marks, LgL, AppR, Ren. -/
import Derived.Test.YthoodjjjklbggaaGreatDoorMTriangles02
import Derived.Test.YthoodjjjklbggaaGreatDoorMTriangles01
import Derived.StillTail
import Derived.Deep.Quiet
import Derived.Laws.CopyOwn
import Derived.Deep.RegionLaw
import Derived.ProofKit
import Derived.OpenShut
import Derived.ShutString
import Derived.ChangeOld
import Derived.Lib.SmallJoins
import Derived.Deep.Slices
import Derived.Deep.Fields
import Derived.Deep.RegionHeld3
namespace Go.Proofs.YthoodjjjklbggaaGreatDoor
open Go.RowKit Go.Sort
set_option maxRecDepth 100000

def btI (xs : List Int) (a b : Nat) : Bool := bitI (xs.getD a 0) b
def triP (xs : List Int) (a b c : Nat) : Bool := decide (a < b) && (decide (a < c) && (btI xs a b && (btI xs b c && btI xs c a)))
def triC (xs : List Int) (a b k : Nat) : List (List Int) := ((List.range k).filter (triP xs a b)).map fun (c : Nat) => [(a : Int), (b : Int), (c : Int)]
def triB (xs : List Int) (n a k : Nat) : List (List Int) := (List.range k).flatMap fun b => triC xs a b n
def triA (xs : List Int) (n k : Nat) : List (List Int) := (List.range k).flatMap fun a => triB xs n a n
theorem triC_succ (xs : List Int) (a b k : Nat) : triC xs a b (k + 1) = triC xs a b k ++ if triP xs a b k = true then [[(a : Int), (b : Int), (k : Int)]] else [] := by
  unfold triC
  rw [List.range_succ, List.filter_append, List.map_append]
  congr 1
  rcases h : triP xs a b k with _ | _ <;> simp [h]
theorem triB_succ (xs : List Int) (n a k : Nat) : triB xs n a (k + 1) = triB xs n a k ++ triC xs a k n := by unfold triB; rw [List.range_succ, List.flatMap_append]; simp
theorem triA_succ (xs : List Int) (n k : Nat) : triA xs n (k + 1) = triA xs n k ++ triB xs n k n := by unfold triA; rw [List.range_succ, List.flatMap_append]; simp
theorem triC_len (xs : List Int) (a b k : Nat) : (triC xs a b k).length ≤ k := by
  unfold triC
  rw [List.length_map]
  refine Nat.le_trans (List.length_filter_le _ _) ?_
  rw [List.length_range]; exact Nat.le_refl _
theorem triB_len (xs : List Int) (n a k : Nat) : (triB xs n a k).length ≤ n * k := by
  induction k with
  | zero => simp [triB]
  | succ k ih =>
    have := triC_len xs a k n
    rw [triB_succ, List.length_append, Nat.mul_succ]; omega
theorem triA_len (xs : List Int) (n k : Nat) : (triA xs n k).length ≤ n * n * k := by
  induction k with
  | zero => simp [triA]
  | succ k ih =>
    have := triB_len xs n k n
    rw [triA_succ, List.length_append, Nat.mul_succ]; omega
/-- nothing below: the counters may start behind a -/
theorem triC_low (xs : List Int) (a b : Nat) (k : Nat) (h : k ≤ a + 1) : triC xs a b k = [] := by
  induction k with
  | zero => rfl
  | succ k ih =>
    rw [triC_succ, ih (by omega)]
    have : triP xs a b k = false := by simp [triP, show ¬ a < k by omega]
    simp [this]
theorem triC_row (xs : List Int) (a b n : Nat) (h : ¬ a < b) : triC xs a b n = [] := by
  induction n with
  | zero => rfl
  | succ k ih =>
    rw [triC_succ, ih]
    have : triP xs a b k = false := by simp [triP, h]
    simp [this]
theorem triB_low (xs : List Int) (n a : Nat) (k : Nat) (h : k ≤ a + 1) : triB xs n a k = [] := by
  induction k with
  | zero => rfl
  | succ k ih => rw [triB_succ, ih (by omega), triC_row _ _ _ _ (by omega)]; rfl
/-- in how many of the first k lists x stands -/
def cntR (rows : List (List Int)) (x : Int) (k : Nat) : Nat := (rows.take k).countP fun l => containsI l x
theorem cntR_succ {rows : List (List Int)} {x : Int} {k : Nat} (hk : k < rows.length) : cntR rows x (k + 1) = cntR rows x k + if containsI (rows.getD k []) x = true then 1 else 0 := by
  unfold cntR
  rw [List.take_succ_eq_append_getElem hk, List.countP_append, show rows.getD k [] = rows[k] by simp [hk], List.countP_singleton]
theorem cntR_le (rows : List (List Int)) (x : Int) (k : Nat) : cntR rows x k ≤ k := by
  unfold cntR
  refine Nat.le_trans List.countP_le_length ?_
  rw [List.length_take]; omega
noncomputable def triI (s : Int) (xs : List Int) (a : Int) : Int := if (tourB s xs && inB a 0 (s - 1)) = true then (cntR (triA xs xs.length xs.length) a (triA xs xs.length xs.length).length : Int) else -1
theorem mem_triA {xs : List Int} {n : Nat} {l : List Int} (h : l ∈ triA xs n n) : ∃ a b c : Nat, l = [(a : Int), (b : Int), (c : Int)] := by
  unfold triA at h
  rw [List.mem_flatMap] at h
  obtain ⟨a, -, h⟩ := h
  unfold triB at h
  rw [List.mem_flatMap] at h
  obtain ⟨b, -, h⟩ := h
  unfold triC at h
  rw [List.mem_map] at h
  obtain ⟨c, -, e⟩ := h
  exact ⟨a, b, c, e.symm⟩
theorem rows_at {xs : List Int} {n k : Nat} (h : k < (triA xs n n).length) : ∃ a b c : Nat, (triA xs n n).getD k [] = [(a : Int), (b : Int), (c : Int)] := by
  rw [show (triA xs n n).getD k [] = (triA xs n n)[k] by simp [h]]
  exact mem_triA (List.getElem_mem h)
theorem nmul_le {n k : Nat} (hn : n ≤ 8) (hk : k ≤ n) : n * n * k ≤ 512 := by
  have h1 : n * n ≤ 8 * 8 := Nat.mul_le_mul hn hn
  have h2 : n * n * k ≤ 8 * 8 * 8 := Nat.mul_le_mul h1 (by omega)
  omega
set_option maxHeartbeats 2000000 in
theorem isTri_any (n : Nat) (sl lv : Value) (xs : List Int) (a b c : Nat) (w : World) (h : Rd w sl xs) (hl : xs.length = n) (h1 : 1 ≤ n) (h8 : n ≤ 8) (h2 : Rd w lv [(a : Int), (b : Int), (c : Int)]) (ha : a < n) (hb : b < n) (hc : c < n) :
    Calls Tryz.prog 30 #[.agg #[.int .i64 n, sl], lv] w fun e w' => e = .returned (.bool (triP xs a b c)) ∧ Below w.heap.size w w' := by
  have HR := Lib.hid h
  have HW := Lib.hid h2
  obtain ⟨A, cA, rfl, -, -, -⟩ := h
  obtain ⟨B, d, rfl, hd, hdm, hdc⟩ := h2
  obtain ⟨g, off, rfl, hg, hx⟩ := hdc (by simp)
  unfold maxLen at hdm
  have z0 := hx 0 (by simp)
  have z1 := hx 1 (by simp)
  have z2 := hx 2 (by simp)
  simp only [List.length_cons, List.length_nil, List.getD_cons_zero, List.getD_cons_succ, Nat.add_zero, Nat.zero_add] at z0 z1 z2 hd HW ⊢
  have hall : allB [(a : Int), (b : Int), (c : Int)] 0 ((n : Int) - 1) = true := by
    unfold allB
    rw [List.all_eq_true]
    intro x hx
    simp only [List.mem_cons, List.not_mem_nil, or_false] at hx
    rw [inB_true]
    omega
  have HL := Lib.hid hl
  clear hdc hx hl
  have HP : Hid (triP xs a b c = (decide (a < b) && (decide (a < c) && (btI xs a b && (btI xs b c && btI xs c a))))) := rfl
  have hba : ∀ (p q : Nat) (W : World), p < n → q < n → Below w.heap.size w W → Calls Tryz.prog 60 #[.agg #[.int .i64 n, .slice A xs.length cA], .int .i64 p, .int .i64 q] W fun e w' => e = .returned (.bool (btI xs p q)) ∧ Below W.heap.size W w' := fun p q W hp hq hW =>
    beats_any n (.slice A xs.length cA) xs p q W (HR.out.below hW) (by omega) (by rw [HL.out]; omega) (by omega) (by omega)
  have HBA := Lib.hid hba
  clear hba
  go_enter Tryz.func30, Tryz.ntmps30
  go_wp2_with fail
  have b0 := below_alloc1 w (.cells #[.int .i64 n, .slice A xs.length cA] 25)
  have x0 := TBox.new w n (.slice A xs.length cA) 25
  generalize w.alloc (.cells #[.int .i64 n, .slice A xs.length cA] 25) = w0 at *
  have HX0 := Lib.hid x0
  have HB0 := Lib.hid b0
  clear x0 b0
  have y0_0 := HX0.out.1
  have y1_0 := HX0.out.2
  go_wp2_with fail
  refine (allWithin_any _ [(a : Int), (b : Int), (c : Int)] 0 ((n : Int) - 1) _ (HW.out.below HB0.out)).mono ?_
  rintro e w1 ⟨rfl, hb1⟩
  rw [hall]
  have HX1 := Lib.hid (HX0.out.below hb1)
  have HB1 := Lib.hid (Below.then HB0.out hb1)
  have c0 := cell_regrown ((HB1.out.cell (p := ⟨g, off, none⟩) hg).trans z0)
  have c1 := cell_regrown ((HB1.out.cell (p := ⟨g, off + 1, none⟩) hg).trans z1)
  have c2 := cell_regrown ((HB1.out.cell (p := ⟨g, off + 2, none⟩) hg).trans z2)
  clear hb1 y0_0 y1_0 z0 z1 z2
  go_wp2_with fail
  refine wp_region_below (by kernel_rfl) (by kernel_rfl) ?_
  repeat (go_big_quiet_step (first | (with_reducible fail)))
  refine wpQuiet_nil ?_
  intro wq hbq0
  have HX2 := Lib.hid (HX1.out.below hbq0)
  have HB2 := Lib.hid (Below.then HB1.out hbq0)
  clear hbq0 c0 c1 c2 HX1 HB1
  have y0 := HX2.out.1
  have y1 := HX2.out.2
  by_cases hab : a < b
  case neg =>
    go_wp2
    go_ret
    exact ⟨ret_bool (by rw [HP.out]; simp [hab]), HB2.out⟩
  by_cases hac : a < c
  case neg =>
    go_wp2
    go_ret
    exact ⟨ret_bool (by rw [HP.out]; simp [hac]), HB2.out⟩
  go_wp2_with fail
  refine (HBA.out a b _ ha hb HB2.out).mono ?_
  rintro e w3 ⟨rfl, hb3⟩
  have HX3 := Lib.hid (HX2.out.below hb3)
  have HB3 := Lib.hid (Below.then HB2.out hb3)
  clear hb3 y0 y1
  have y0 := HX3.out.1
  have y1 := HX3.out.2
  rcases q1 : btI xs a b with _ | _
  case false =>
    go_wp2
    go_ret
    exact ⟨ret_bool (by rw [HP.out, q1]; simp), HB3.out⟩
  go_wp2_with fail
  refine (HBA.out b c _ hb hc HB3.out).mono ?_
  rintro e w4 ⟨rfl, hb4⟩
  have HX4 := Lib.hid (HX3.out.below hb4)
  have HB4 := Lib.hid (Below.then HB3.out hb4)
  clear hb4 y0 y1
  have y0 := HX4.out.1
  have y1 := HX4.out.2
  rcases q2 : btI xs b c with _ | _
  case false =>
    go_wp2
    go_ret
    exact ⟨ret_bool (by rw [HP.out, q1, q2]; simp), HB4.out⟩
  go_wp2_with fail
  refine (HBA.out c a _ hc ha HB4.out).mono ?_
  rintro e w5 ⟨rfl, hb5⟩
  have HB5 := Lib.hid (Below.then HB4.out hb5)
  clear hb5 y0 y1
  go_wp2
  go_ret
  exact ⟨ret_bool (by rw [HP.out, q1, q2]; simp [hab, hac]), HB5.out⟩
end Go.Proofs.YthoodjjjklbggaaGreatDoor

namespace Go.Proofs.YthoodjjjklbggaaGreatDoor
set_option maxRecDepth 100000
/-- a sum over the first n -/
def sumN (f : Nat → Int) : Nat → Int
  | 0 => 0
  | n + 1 => sumN f n + f n
theorem sumN_congr {f g : Nat → Int} {n : Nat} (h : ∀ k, k < n → f k = g k) : sumN f n = sumN g n := by
  induction n with
  | zero => rfl
  | succ n ih => rw [sumN, sumN, ih fun k hk => h k (by omega), h n (by omega)]
theorem sumN_add (f g : Nat → Int) (n : Nat) : sumN (fun k => f k + g k) n = sumN f n + sumN g n := by
  induction n with
  | zero => rfl
  | succ n ih => rw [sumN, sumN, sumN, ih]; omega
theorem sumN_zero (n : Nat) : sumN (fun _ => 0) n = 0 := by
  induction n with
  | zero => rfl
  | succ n ih => rw [sumN, ih]; rfl
theorem sumN_const (c : Int) (n : Nat) : sumN (fun _ => c) n = n * c := by
  induction n with
  | zero => simp [sumN]
  | succ n ih => rw [sumN, ih]; push_cast; rw [Int.add_mul, Int.one_mul]
/-- one place alone -/
theorem sumN_one {f : Nat → Int} {n a : Nat} (ha : a < n) (h : ∀ k, k < n → k ≠ a → f k = 0) : sumN f n = f a := by
  induction n with
  | zero => omega
  | succ n ih =>
    rw [sumN]
    by_cases e : a = n
    · subst e
      rw [sumN_congr (g := fun _ => 0) fun k hk => h k (by omega) (by omega), sumN_zero]; omega
    · rw [ih (by omega) fun k hk => h k (by omega), h n (by omega) (by omega)]; omega
theorem sumN_two {f : Nat → Int} {n a b : Nat} (ha : a < n) (hb : b < n) (hab : a ≠ b) (h : ∀ k, k < n → k ≠ a → k ≠ b → f k = 0) : sumN f n = f a + f b := by
  have e : sumN f n = sumN (fun k => (if k = a then f a else 0) + (if k = b then f b else 0)) n := by
    refine sumN_congr fun k hk => ?_
    by_cases h1 : k = a
    · subst h1; rw [if_pos rfl, if_neg hab]; omega
    · by_cases h2 : k = b
      · subst h2; rw [if_neg h1, if_pos rfl]; omega
      · rw [if_neg h1, if_neg h2, h k hk h1 h2]; rfl
  rw [e, sumN_add, sumN_one ha (fun k _ hk => if_neg hk), sumN_one hb (fun k _ hk => if_neg hk), if_pos rfl, if_pos rfl]
theorem sumN_sub (f g : Nat → Int) (n : Nat) : sumN (fun k => f k - g k) n = sumN f n - sumN g n := by
  induction n with
  | zero => rfl
  | succ n ih => rw [sumN, sumN, sumN, ih]; omega
theorem sumN_zero' {f : Nat → Int} {n : Nat} (h : ∀ k, k < n → f k = 0) : sumN f n = 0 := (sumN_congr h).trans (sumN_zero n)
theorem sumN_mul (c : Int) (f : Nat → Int) (n : Nat) : sumN (fun k => c * f k) n = c * sumN f n := by
  induction n with
  | zero => simp [sumN]
  | succ n ih => rw [sumN, sumN, ih, Int.mul_add]
theorem sumN_swap (f : Nat → Nat → Int) (n m : Nat) : sumN (fun a => sumN (fun b => f a b) n) m = sumN (fun b => sumN (fun a => f a b) m) n := by
  induction m with
  | zero => simp only [sumN]; exact (sumN_zero n).symm
  | succ m ih => rw [sumN, ih, ← sumN_add]; exact sumN_congr fun k _ => rfl
theorem sumN_nonneg {f : Nat → Int} {n : Nat} (h : ∀ k, k < n → 0 ≤ f k) : 0 ≤ sumN f n := by
  induction n with
  | zero => exact Int.le_refl 0
  | succ n ih => have := ih fun k hk => h k (by omega); have := h n (by omega); rw [sumN]; omega
theorem sumN_le {f : Nat → Int} {n : Nat} {B : Int} (h : ∀ k, k < n → f k ≤ B) : sumN f n ≤ B * n := by
  induction n with
  | zero => simp [sumN]
  | succ n ih =>
    have h1 := ih fun k hk => h k (by omega)
    have h2 := h n (by omega)
    rw [sumN]; push_cast; rw [Int.mul_add]; omega
theorem list_sumN (l : List Int) : l.sum = sumN (fun k => l.getD k 0) l.length := by
  induction l with
  | nil => rfl
  | cons x l ih =>
    have : ∀ n, sumN (fun k => (x :: l).getD k 0) (n + 1) = x + sumN (fun k => l.getD k 0) n := fun n => by
      induction n with
      | zero => simp [sumN]
      | succ n ihn => rw [sumN, ihn, sumN]; simp; omega
    rw [List.sum_cons, ih, List.length_cons, this]
theorem map_sumN (f : Nat → Int) (n : Nat) : ((List.range n).map f).sum = sumN f n := by
  induction n with
  | zero => rfl
  | succ n ih => rw [List.range_succ, List.map_append, List.sum_append, ih, sumN]; simp
end Go.Proofs.YthoodjjjklbggaaGreatDoor

namespace Go.Proofs.YthoodjjjklbggaaGreatDoor
open Go.RowKit Go.Sort

section
variable {P : Program} {ops : Array Oper} {md : Region.Mode} {C : World → Prop}

/-- whatever order is picked among the first n, with n of them left to do -/
def pickQ (P : Program) (md : Region.Mode) (ops : Array Oper) (C : World → Prop) (n : Nat) (L : Array Bool → Act → Prop) : Nat → Array Bool → Act → Prop
  | 0, b, a => L b a
  | f + 1, b, a => Region.ready md ops b ≠ [] ∧ ∀ i ∈ Region.ready md ops b, i < n ∧ qOp P ops C i (pickQ P md ops C n L f (b.setIfInBounds i true)) a

theorem pickQ_any {n g : Nat} {L : Array Bool → Act → Prop} {R : Exit → Act → World → Prop} (hL : ∀ b a w, C w → L b a → wpAny P md ops R g b a w) (f : Nat) :
    ∀ (b : Array Bool) (a : Act) (w : World), C w → pickQ P md ops C n L f b a → wpAny P md ops R (f + g) b a w := by
  induction f with
  | zero => intro b a w hw h; rw [Nat.zero_add]; exact hL _ _ _ hw h
  | succ f ih =>
    intro b a w hw h
    rw [show f + 1 + g = (f + g) + 1 by omega]
    exact ⟨fun h0 => absurd h0 h.1, fun i hi => wpOp_of_qOp hw (fun a' w' hw' h' => ih _ a' w' hw' h') (h.2 i hi).2⟩

theorem pickQ_first {n i : Nat} {oi : Oper} {v : Value} {L : Array Bool → Act → Prop} (hi : ops[i]? = some oi) (hsel : ∀ (j : Nat) (o : Oper) cs b, ops[j]? = some o → o.op ≠ .select cs b)
    (hs : Region.sinkB md ops n = true) (hc : Region.chainB md ops n = true) (hn : n < ops.size) (hin : i < n) (hdone : ∀ b a, L b a → ∀ j ∈ Region.ready md ops b, n ≤ j) (f : Nat) :
    ∀ (b : Array Bool) (a : Act), HeadInv md ops n b →
      (∀ j oj, ops[j]? = some oj → j ≠ i → b.getD j true = false → (∀ e ∈ oj.after, Region.binds md e = true → e.on ≠ i) → oi.apart ops oj = true) →
      i ∈ Region.ready md ops b → YieldsIn P ops C oi v a →
      pickQ P md ops C n L f (b.setIfInBounds i true) (a.put oi.dst v) → pickQ P md ops C n L (f + 1) b a := by
  induction f with
  | zero =>
    intro b a inv _ hr hy H
    have hun := (mem_ready.1 hr).1
    refine ⟨fun h => (by rw [h] at hr; cases hr), fun j hj => ?_⟩
    have hjn : j < n := Nat.lt_of_not_le fun h => tail_waits hs hc hn inv _ i rfl hin hun j h hj
    by_cases hji : j = i
    · subst hji; exact ⟨hjn, hy.qOp hi H⟩
    · have := hdone _ _ H j (ready_mono hj hji); omega
  | succ f ih =>
    intro b a inv hfree hr hy H
    have hun := (mem_ready.1 hr).1
    refine ⟨fun h => (by rw [h] at hr; cases hr), fun j hj => ?_⟩
    have hjn : j < n := Nat.lt_of_not_le fun h => tail_waits hs hc hn inv _ i rfl hin hun j h hj
    refine ⟨hjn, ?_⟩
    by_cases hji : j = i
    · subst hji; exact hy.qOp hi H
    · obtain ⟨hjun, oj, hoj, hall⟩ := mem_ready.1 hj
      have hnot : ∀ e ∈ oj.after, Region.binds md e = true → e.on ≠ i := fun e he hb heq => by
        have h1 := hall e he hb
        rw [heq, getD_both hun] at h1
        cases h1
      have h2 := qOp_put hoj (hfree j oj hoj hji hjun hnot) (fun cs b => hsel i oi cs b hi) (fun cs b => hsel j oj cs b hoj) hy (H.2 j (ready_mono hj hji)).2
      refine qOp_mono (fun a' h3 => ih (b.setIfInBounds j true) a' (inv.set hj hjn) (fun k ok hk hki hun hno => hfree k ok hk hki ?_ hno) (ready_mono hr (Ne.symm hji)) h3.1 ?_) h2
      · by_cases hjk : j = k
        · subst hjk; exact hjun
        · rw [getD_set_ne true hjk] at hun; exact hun
      · rw [Array.setIfInBounds_comm _ _ hji]
        exact h3.2

theorem pickQ_lex {n g : Nat} {Lq : Act → Prop} (hsel : Region.noSelect ops = true) (hs : Region.sinkB md ops n = true) (hc : Region.chainB md ops n = true) (hn : n < ops.size) :
    ∀ (l : List Oper) (k : Nat) (b : Array Bool) (a : Act), (∀ j, j < l.length → l[j]? = ops[k + j]?) → k + l.length = n → HeadInv md ops n b →
    Region.lexHead md ops g l.length k b = true → wpQuiet P ops C Lq l a → pickQ P md ops C n (fun b' a' => Region.seqB md ops g n b' = true ∧ Lq a') l.length b a := by
  intro l
  induction l with
  | nil =>
    intro k b a _ hk _ hB h
    obtain rfl : k = n := by simpa using hk
    exact ⟨by simpa [Region.lexHead] using hB, h⟩
  | cons o l ih =>
    intro k b a hl hk inv hB h
    have h0 : ops[k]? = some o := by simpa using (hl 0 (by simp)).symm
    simp only [List.length_cons, Region.lexHead, Bool.and_eq_true] at hB
    simp only [List.length_cons] at hk
    have hr : k ∈ Region.ready md ops b := by simpa using hB.1.1
    have hq : qOp P ops C k (wpQuiet P ops C Lq l) a := by unfold qOp; simp only [h0]; exact h
    obtain ⟨v, hy, hK⟩ := yieldsIn_of_qOp h0 hq
    exact pickQ_first h0 (Region.noSelect_spec hsel) hs hc hn (by omega) (fun b' a' hL => seqB_ready hL.1) l.length b a inv (Region.free_spec h0 hB.1.2) hr hy
      (ih (k + 1) _ _ (fun j hj => by have := hl (j + 1) (by simp; omega); simpa [Nat.add_assoc, Nat.add_comm 1 j] using this) (by omega) (inv.set hr (by omega)) hB.2 hK)

/-- THE FIRST n OPERATIONS QUIET IN A CLASS OF WORLDS, THE REST BEHIND THEM IN ONE ORDER. -/
theorem wp_region_quiet_tail {id : Nat} {Q : Exit → Act → World → Prop} {a : Act} {w : World} {l : List Oper} (n : Nat) (hm : P.follows .mixedOrders = true) (hB : Region.lexTailB .any l.toArray n = true)
    (hC : C { w with drawn := w.drawn + 1 }) (h : wpQuiet P l.toArray C (fun a' => ∀ w', C w' → wpList P l.toArray Q (l.drop n) a' w') (l.take n) a) : (Code.region id l.toArray true).wp P Q a w := by
  simp only [Region.lexTailB, Bool.and_eq_true, decide_eq_true_eq] at hB
  obtain ⟨⟨⟨⟨hsel, hn⟩, hs⟩, hc⟩, hlex⟩ := hB
  have hn' : n < l.length := by simpa using hn
  have htl : (l.take n).length = n := by simp; omega
  have hdl : (l.drop n).length = l.toArray.size - n := by simp
  have H := pickQ_lex (md := .any) (g := l.toArray.size - n) hsel hs hc hn (l.take n) 0 (Array.replicate l.toArray.size false) a
    (fun j hj => by have hj' : j < n := by rw [htl] at hj; exact hj
                    simp [hj'])
    (by simpa using htl) ⟨by simp, fun j oj _ hl => (by rw [getD_replicate_false] at hl; cases hl), fun t _ ht => getD_in (by simpa using ht) (getD_replicate_false _ _)⟩
    (by rw [htl]; exact hlex) h
  refine wp_region_any hm ?_
  have := pickQ_any (R := Q) (g := l.toArray.size - n) (fun b a' w' hw' hL => by
    have := wpAny_of_seq (md := .any) (Q' := Q) (l.drop n) n b a' w' (fun j => by simp [List.getElem?_drop]) (by rw [hdl]; exact hL.1) (hL.2 w' hw')
    rwa [hdl] at this) _ _ _ _ hC H
  rw [htl, show n + (l.toArray.size - n) = l.toArray.size by omega] at this
  exact this
end

/-- The same at callees that leave all that was there. -/
theorem wp_region_below_tail {P : Program} {id : Nat} {Q : Exit → Act → World → Prop} {a : Act} {w : World} {l : List Oper} (n : Nat) (hm : P.follows .mixedOrders = true) (hB : Region.lexTailB .any l.toArray n = true)
    (h : wpQuiet P l.toArray (fun w' => ∃ p : Regrown, w' = grow (redrawn w p.d) p.os) (fun a' => ∀ w', Below w.heap.size w w' → wpList P l.toArray Q (l.drop n) a' w') (l.take n) a) : (Code.region id l.toArray true).wp P Q a w :=
  wp_region_quiet_tail (C := fun w' => ∃ p : Regrown, w' = grow (redrawn w p.d) p.os) n hm hB ⟨⟨w.drawn + 1, #[]⟩, by rw [grow_empty]; rfl⟩ (by
    have e : (fun a' => ∀ w', (∃ p : Regrown, w' = grow (redrawn w p.d) p.os) → wpList P l.toArray Q (l.drop n) a' w') = (fun a' => ∀ w', Below w.heap.size w w' → wpList P l.toArray Q (l.drop n) a' w') := by
      funext a'
      exact propext ⟨fun h w' hb => h w' (regrown_of_below hb), fun h w' ⟨p, hp⟩ => by subst hp; exact h _ (below_regrown w p.d p.os)⟩
    rw [e]
    exact h)
end Go.Proofs.YthoodjjjklbggaaGreatDoor

namespace Go.Proofs.YthoodjjjklbggaaGreatDoor
open Go.RowKit Go.Sort

theorem ints_made' (n : Nat) : (madeCells (Value.int IntKind.i64 0).cells (n * 1)).toList = (List.replicate n (0 : Int)).map (Value.int .i64) := by
  have := toList_madeCells_one (.int .i64 0) (n * 1)
  simpa [Value.cells] using this
end Go.Proofs.YthoodjjjklbggaaGreatDoor

namespace Go.Proofs.YthoodjjjklbggaaGreatDoor
open Go.ChangeShapes Go.WideShapes Go.ChangeAt Go.RowKit Go.Joins
set_option maxRecDepth 100000

theorem own : ownKnob Tryz.prog.godebug = none := by kernel_rfl
theorem laidOut : laidOutB Tryz.prog = true := by kernel_rfl

section
variable {H : Type} {enc : TypeId × Value → H} {W : World} {base b0 : Nat} {spare : Nat → Bool} {held : Bool} {v : Value} {d : DataW H} {p : List MemPlace} {r : Reach}

/-- A value that is an int. -/
def IntV (v : Value) : Prop := ∃ a : Int, v = .int .i64 a ∧ -9223372036854775808 ≤ a ∧ a ≤ 9223372036854775807
theorem open_intv (hv : Value.okWide Tryz.prog W r b0 3 v) (h : DataW.Trod enc Tryz.prog W base spare held 3 v d p) : IntV v := by
  obtain ⟨a, rfl, rfl, rfl, w1⟩ := open_int Tryz.underlying3 hv h
  have := bounds_i64 w1
  exact ⟨a, rfl, this.1, this.2⟩

/-- A value that reads as a slice of ints. -/
def IntsV (W : World) (v : Value) : Prop := ∃ xs, Rd W v xs ∧ I64s xs
theorem ints_of {fuel : Nat} {x : DataW H × List MemPlace} {v : Value} (hf : DataW.trod enc Tryz.prog W base spare held fuel 23 [v] = some x) : IntsV W v := by
  rcases open_ints Tryz.underlying23 Tryz.underlying3 (by kernel_rfl) hf with ⟨hcs, _⟩ | ⟨y, l, c, zs, hcs, _, hl, hm, hz, _, hcell, hwz⟩
  · simp at hcs
    subst hcs
    exact ⟨[], Rd.nil_ W, fun x hx => absurd hx (by simp)⟩
  · simp at hcs
    subst hcs
    exact ⟨zs.take l, Rd.of_row hl hm (by rw [hz]; split <;> omega) hcell, fun x hx => bounds_i64 (hwz x (List.mem_of_mem_take hx))⟩
theorem open_intsv (hv : Value.okWide Tryz.prog W r b0 23 v) (h : DataW.Trod enc Tryz.prog W base spare held 23 v d p) : IntsV W v := by
  obtain ⟨a0, len0, cap0, rfl⟩ := okWide_slice Tryz.underlying23 hv
  obtain ⟨fuel, hf⟩ := h
  exact ints_of hf

end
end Go.Proofs.YthoodjjjklbggaaGreatDoor

namespace Go.Proofs.YthoodjjjklbggaaGreatDoor
open Go.ChangeShapes Go.WideShapes Go.ChangeAt Go.RowKit Go.Joins
set_option maxRecDepth 100000

/-- the value of a result -/
def ResB (a b c d : Int) : Prop := (-9223372036854775808 ≤ a ∧ a ≤ 9223372036854775807) ∧ (-9223372036854775808 ≤ b ∧ b ≤ 9223372036854775807) ∧ (-9223372036854775808 ≤ c ∧ c ≤ 9223372036854775807) ∧ (-9223372036854775808 ≤ d ∧ d ≤ 9223372036854775807)
def ResultV (v : Value) : Prop := ∃ a b c d : Int, v = .agg #[.int .i64 a, .int .i64 b, .int .i64 c, .int .i64 d] ∧ ResB a b c d

end Go.Proofs.YthoodjjjklbggaaGreatDoor

namespace Go.Proofs.YthoodjjjklbggaaGreatDoor
open Go.ChangeShapes Go.WideShapes Go.ChangeAt Go.RowKit Go.Joins Go.Deep
set_option maxRecDepth 100000

/-- a result: home, away, given, taken -/
abbrev R4 := Int × Int × Int × Int
def r4At (rs : List R4) (k : Nat) : R4 := rs.getD k (0, 0, 0, 0)
/-- four cells from here on -/
def Four (w : World) (b o : Nat) (r : R4) : Prop := w.cell? ⟨b, o, none⟩ = some (.int .i64 r.1) ∧ w.cell? ⟨b, o + 1, none⟩ = some (.int .i64 r.2.1) ∧ w.cell? ⟨b, o + 2, none⟩ = some (.int .i64 r.2.2.1) ∧ w.cell? ⟨b, o + 3, none⟩ = some (.int .i64 r.2.2.2)
theorem Four.keep {w w' : World} {b o : Nat} {r : R4} (h : Four w b o r) (hk : ∀ p : Addr, p.block = b → w'.cell? p = w.cell? p) : Four w' b o r :=
  ⟨(hk _ rfl).trans h.1, (hk _ rfl).trans h.2.1, (hk _ rfl).trans h.2.2.1, (hk _ rfl).trans h.2.2.2⟩
/-- THE SLICE VALUE v READS AS THE RESULTS rs. -/
def RdR (w : World) (v : Value) (rs : List R4) : Prop :=
  ∃ (A : Option Addr) (c : Nat), v = .slice A rs.length c ∧ rs.length ≤ c ∧ c ≤ maxLen ∧
    (0 < rs.length → ∃ b off, A = some ⟨b, off, none⟩ ∧ b < w.heap.size ∧ ∀ k, k < rs.length → Four w b (off + k * 4) (r4At rs k))
theorem RdR.keep {w w' : World} {v : Value} {rs : List R4} (h : RdR w v rs) (hs : w.heap.size ≤ w'.heap.size) (hk : ∀ p : Addr, p.block < w.heap.size → w'.cell? p = w.cell? p) : RdR w' v rs := by
  obtain ⟨A, c, rfl, hl, hc, hb⟩ := h
  refine ⟨A, c, rfl, hl, hc, fun h0 => ?_⟩
  obtain ⟨b, off, rfl, hlt, hcell⟩ := hb h0
  exact ⟨b, off, rfl, by omega, fun k hk' => (hcell k hk').keep fun p hp => hk p (by omega)⟩
theorem RdR.below {w w' : World} {v : Value} {rs : List R4} (h : RdR w v rs) (hb : Below w.heap.size w w') : RdR w' v rs := h.keep hb.size fun _ hp => hb.cell hp
theorem RdR.alloc {w : World} {v : Value} {rs : List R4} (h : RdR w v rs) (o : Obj) : RdR (w.alloc o) v rs := h.below ((Below.refl _ _).alloc (Nat.le_refl _) _)
theorem RdR.nil_ (w : World) : RdR w (.slice none 0 0) [] := ⟨none, 0, rfl, Nat.le_refl _, by unfold maxLen; omega, fun h => absurd h (by simp)⟩
def I64R (rs : List R4) : Prop := ∀ r ∈ rs, ResB r.1 r.2.1 r.2.2.1 r.2.2.2

/-- the cells of the results, one behind the other -/
def cells4 (r : R4) : List Value := [.int .i64 r.1, .int .i64 r.2.1, .int .i64 r.2.2.1, .int .i64 r.2.2.2]
def flat4 (rs : List R4) : List Value := rs.flatMap cells4
theorem flat4_length (rs : List R4) : (flat4 rs).length = rs.length * 4 := by
  induction rs with
  | nil => rfl
  | cons r rs ih => simp only [flat4, List.flatMap_cons, List.length_append, List.length_cons] at *; rw [ih]; simp [cells4]; omega
theorem flat4_append (rs ts : List R4) : flat4 (rs ++ ts) = flat4 rs ++ flat4 ts := by simp [flat4]
theorem flat4_at (rs : List R4) (k : Nat) (hk : k < rs.length) (i : Nat) (hi : i < 4) : (flat4 rs)[k * 4 + i]? = (cells4 (r4At rs k))[i]? := by
  induction rs generalizing k with
  | nil => simp at hk
  | cons r rs ih =>
    have e : flat4 (r :: rs) = cells4 r ++ flat4 rs := by simp [flat4]
    rw [e]
    cases k with
    | zero =>
      rw [List.getElem?_append_left (by simp [cells4]; omega)]
      simp [r4At]
    | succ k =>
      rw [List.getElem?_append_right (by simp [cells4]; omega)]
      have := ih k (by simpa using hk)
      rw [show (k + 1) * 4 + i - (cells4 r).length = k * 4 + i by simp [cells4]; omega, this]
      simp [r4At]

end Go.Proofs.YthoodjjjklbggaaGreatDoor

namespace Go.Proofs.YthoodjjjklbggaaGreatDoor
open Go.RowKit

theorem eqIntS_true (xs ys : List Int) (h : xs.length = ys.length) (HP : ∀ j, j < xs.length → xs.getD j 0 = ys.getD j 0) : decide (xs = ys) = true := by
  rw [decide_eq_true]
  apply List.ext_getElem h
  intro i h1 h2
  have := HP i h1
  simpa [h1, h2] using this

theorem set_take (xs : List Int) (k : Nat) (hk : k < xs.length) : (xs.take k ++ List.replicate (xs.length - k) 0).set k (xs.getD k 0) = xs.take (k + 1) ++ List.replicate (xs.length - (k + 1)) 0 := by
  have hr : xs.length - k = (xs.length - (k + 1)) + 1 := by omega
  have hl : (xs.take k).length = k := by rw [List.length_take]; omega
  rw [List.set_append_right _ _ (by omega), hl, Nat.sub_self, hr, List.replicate_succ, List.set_cons_zero, List.take_succ_eq_append_getElem hk, List.append_assoc, List.singleton_append, show xs.getD k 0 = xs[k] by simp [hk]]

end Go.Proofs.YthoodjjjklbggaaGreatDoor

namespace Go.Proofs.YthoodjjjklbggaaGreatDoor
open Go.RowKit

/-- the numbers from k on, n of them -/
def marks (k : Int) (n : Nat) : List Int := (List.range n).map fun (i : Nat) => k + (i : Int)
theorem marks_length (k : Int) (n : Nat) : (marks k n).length = n := by simp [marks]
theorem marks_getD (k : Int) {n i : Nat} (h : i < n) : (marks k n).getD i 0 = k + i := by simp [marks, h]

theorem Below.of_drew {w w' : World} (h : ∃ q, w' = w.drewN q) : Below w.heap.size w w' := by
  obtain ⟨q, rfl⟩ := h
  exact below_drewN (Below.refl _ _) q

theorem mark_set (xs : List Int) (k : Int) (i : Nat) (h : i < xs.length) : (marks k i ++ xs.drop i).set i (k + i) = marks k (i + 1) ++ xs.drop (i + 1) := by
  rw [List.set_append_right _ _ (by rw [marks_length]; exact Nat.le_refl _), marks_length, Nat.sub_self, List.drop_eq_getElem_cons h, List.set_cons_zero]
  simp [marks, List.range_succ]

theorem grown_trans {a b c : World} {row : Option Nat} (h : a.grownBy b row) (k : b.grownBy c row) : a.grownBy c row :=
  ⟨k.os.trans h.os, k.tape.trans h.tape, k.output.trans h.output, Nat.le_trans h.size k.size, fun i hi hne => (k.block i (Nat.lt_of_lt_of_le hi h.size) hne).trans (h.block i hi hne)⟩

/-- what heldIntS returns -/
def heldI (xs : List Int) (k : Int) : Int := if xs = marks k xs.length then k + xs.length else -1
theorem heldI_marks (k : Int) (n : Nat) : heldI (marks k n) k = k + n := by unfold heldI; simp [marks_length]
theorem heldI_no {xs : List Int} {k : Int} {j : Nat} (hj : j < xs.length) (h : xs[j]?.getD 0 ≠ k + j) : heldI xs k = -1 := by
  unfold heldI
  rw [if_neg]
  intro e
  apply h
  rw [← List.getD_eq_getElem?_getD, e, marks_getD k hj]
theorem heldI_yes {xs : List Int} {k : Int} (h : ∀ j, j < xs.length → xs.getD j 0 = k + j) : heldI xs k = k + xs.length := by
  unfold heldI
  rw [if_pos]
  apply List.ext_getElem (by rw [marks_length])
  intro i h1 h2
  have := h i h1
  rw [← marks_getD k h1] at this
  simpa [h1, h2] using this

theorem apart_symm {a b : Option Nat} (h : a = none ∨ a ≠ b) : b = none ∨ b ≠ a := by
  rcases h with h | h
  · subst h; cases b <;> simp
  · exact .inr (Ne.symm h)
end Go.Proofs.YthoodjjjklbggaaGreatDoor

namespace Go.Proofs.YthoodjjjklbggaaGreatDoor
open Go.ChangeShapes Go.WideShapes Go.ChangeAt Go.RowKit Go.Joins Go.Deep Go.Sort
set_option maxRecDepth 100000


theorem flat4_set (rs : List R4) (k : Nat) (hk : k < rs.length) (r : R4) :
    ((((flat4 rs).set (k * 4) (.int .i64 r.1)).set (k * 4 + 1) (.int .i64 r.2.1)).set (k * 4 + 2) (.int .i64 r.2.2.1)).set (k * 4 + 3) (.int .i64 r.2.2.2) = flat4 (rs.set k r) := by
  induction rs generalizing k with
  | nil => simp at hk
  | cons q rs ih =>
    cases k with
    | zero => simp [flat4, cells4]
    | succ k =>
      have e : flat4 (q :: rs) = cells4 q ++ flat4 rs := by simp [flat4]
      have l : (cells4 q).length = 4 := rfl
      have s : ∀ (L : List Value) (i : Nat) (u : Value), (cells4 q ++ L).set ((k + 1) * 4 + i) u = cells4 q ++ L.set (k * 4 + i) u := fun L i u => by
        rw [List.set_append_right _ _ (by omega), l, show (k + 1) * 4 + i - 4 = k * 4 + i by omega]
      have s0 : ∀ (L : List Value) (u : Value), (cells4 q ++ L).set ((k + 1) * 4) u = cells4 q ++ L.set (k * 4) u := fun L u => s L 0 u
      rw [e, s0, s, s, s, ih k (by simpa using hk), List.set_cons_succ]
      simp [flat4]
end Go.Proofs.YthoodjjjklbggaaGreatDoor

namespace Go.Proofs.YthoodjjjklbggaaGreatDoor
open Go.RowKit Go.Sort

/-- a struct {int, slice} in a box that may be stored to -/
def BoxF (W : World) (g : Nat) (s : Int) (v : Value) : Prop := TBox W g s v ∧ ∀ k, W.frozen? ⟨g, k, none⟩ = false
theorem BoxF.new (w : World) (s : Int) (v : Value) (t : TypeId) : BoxF (w.alloc (.cells #[.int .i64 s, v] t)) w.heap.size s v := ⟨TBox.new w s v t, fun k => by simp⟩
theorem BoxF.gt {W : World} {g : Nat} {s : Int} {v : Value} (h : BoxF W g s v) : g < W.heap.size := World.block_lt_of_cell? W _ h.1.1
theorem BoxF.below {W W' : World} {g : Nat} {s : Int} {v : Value} (h : BoxF W g s v) (hb : Below W.heap.size W W') : BoxF W' g s v :=
  ⟨h.1.below hb, fun k => ((bcell hb).2 _ _ h.gt).trans (h.2 k)⟩
theorem BoxF.kept {W W' : World} {g : Nat} {s : Int} {v : Value} {row : Option Nat} (h : BoxF W g s v) (hg : W.grownBy W' row) (hne : some g ≠ row) : BoxF W' g s v :=
  ⟨h.1.kept hg hne, fun k => (World.frozen?_of_block (hg.block g h.gt hne)).trans (h.2 k)⟩
theorem BoxF.set1 {W : World} {g : Nat} {s : Int} {v : Value} (h : BoxF W g s v) (v' : Value) : BoxF (W.setCell ⟨g, 1, none⟩ v') g s v' :=
  ⟨⟨(World.cell?_setCell_other _ _ _ _ (by simp)).trans h.1.1, World.cell?_setCell_same _ _ _ h.1.2⟩, fun k => by have := h.2 k; simpa [go_sem] using this⟩
theorem BoxF.set01 {W : World} {g : Nat} {s : Int} {v : Value} (h : BoxF W g s v) (s' : Int) (v' : Value) : BoxF ((W.setCell ⟨g, 0, none⟩ (.int .i64 s')).setCell ⟨g, 1, none⟩ v') g s' v' :=
  ⟨⟨(World.cell?_setCell_other _ _ _ _ (by simp)).trans (World.cell?_setCell_same _ _ _ h.1.1), World.cell?_setCell_same _ _ _ ((World.cell?_setCell_other _ _ _ _ (by simp)).trans h.1.2)⟩, fun k => by have := h.2 k; simpa [go_sem] using this⟩
end Go.Proofs.YthoodjjjklbggaaGreatDoor

namespace Go.Proofs.YthoodjjjklbggaaGreatDoor
open Go.RowKit Go.Sort
set_option maxRecDepth 100000

/-- each number below n once -/
def PermP (n : Nat) (ns : List Int) : Prop := ns.length = n ∧ (∀ x ∈ ns, 0 ≤ x ∧ x < n) ∧ ns.Nodup
def nmN (ns : List Int) (a : Nat) : Nat := (ns.getD a 0).toNat
theorem getD_mem' {ns : List Int} {a : Nat} (h : a < ns.length) : ns.getD a 0 ∈ ns := by
  rw [show ns.getD a 0 = ns[a] by simp [h]]; exact List.getElem_mem h
theorem nm_val {n : Nat} {ns : List Int} (hp : PermP n ns) {a : Nat} (ha : a < n) : ns.getD a 0 = (nmN ns a : Int) ∧ nmN ns a < n := by
  have := hp.2.1 _ (getD_mem' (by rw [hp.1]; exact ha))
  unfold nmN; omega
theorem nm_inj {n : Nat} {ns : List Int} (hp : PermP n ns) {a b : Nat} (ha : a < n) (hb : b < n) (h : nmN ns a = nmN ns b) : a = b := by
  have h1 := (nm_val hp ha).1
  have h2 := (nm_val hp hb).1
  have ha' : a < ns.length := by rw [hp.1]; exact ha
  have hb' : b < ns.length := by rw [hp.1]; exact hb
  have e : ns[a] = ns[b] := by
    have e1 : ns.getD a 0 = ns[a] := by simp [ha']
    have e2 : ns.getD b 0 = ns[b] := by simp [hb']
    rw [← e1, ← e2, h1, h2, h]
  have hpw := List.pairwise_iff_getElem.1 hp.2.2
  rcases Nat.lt_trichotomy a b with h | h | h
  · exact absurd e (hpw a b ha' hb' h)
  · exact h
  · exact absurd e.symm (hpw b a hb' ha' h)
theorem nm_surj {n : Nat} {ns : List Int} (hp : PermP n ns) {i : Nat} (hi : i < n) : ∃ a, a < n ∧ nmN ns a = i := by
  refine Classical.byContradiction fun hc => ?_
  have hno : (i : Int) ∉ ns := fun h => by
    obtain ⟨a, ha, e⟩ := List.mem_iff_getElem.1 h
    refine hc ⟨a, by rw [← hp.1]; exact ha, ?_⟩
    unfold nmN
    rw [show ns.getD a 0 = ns[a] by simp [ha], e]; rfl
  have := nodup_le n ((i : Int) :: ns) (List.nodup_cons.2 ⟨hno, hp.2.2⟩) (fun y hy => by
    rw [List.mem_cons] at hy
    rcases hy with rfl | hy
    · omega
    · exact hp.2.1 y hy)
  rw [List.length_cons, hp.1] at this
  omega
/-- behind the pairs before (a, b) -/
def rnF (xs ns : List Int) (n : Nat) (N : List Int) (a b : Nat) : Prop :=
  N.length = n ∧ (∀ i, i < n → ∃ S : Nat, N.getD i 0 = (S : Int) ∧ S < 2 ^ n) ∧ ∀ p q, p < n → q < n → (N.getD (nmN ns p) 0).toNat.testBit (nmN ns q) = (decide (p < a ∨ (p = a ∧ q < b)) && (winsN xs p).testBit q)
theorem rnF_start {xs ns : List Int} {n : Nat} : rnF xs ns n (List.replicate n 0) 0 0 := by
  have e : ∀ i, (List.replicate n (0 : Int)).getD i 0 = 0 := fun i => by
    by_cases h : i < n
    · simp [h]
    · simp [Nat.le_of_not_lt h]
  refine ⟨by simp, fun i _ => ⟨0, e i, Nat.two_pow_pos n⟩, fun p q _ _ => ?_⟩
  rw [e]; simp
theorem rnF_no {xs ns N : List Int} {n a b : Nat} (h : rnF xs ns n N a b) (hb : (winsN xs a).testBit b = false) : rnF xs ns n N a (b + 1) := by
  refine ⟨h.1, h.2.1, fun p q hp hq => ?_⟩
  rw [h.2.2 p q hp hq]
  by_cases e : p = a ∧ q = b
  · obtain ⟨rfl, rfl⟩ := e; rw [hb]; simp
  · congr 1; rw [decide_eq_decide]; omega
theorem rnF_next {xs ns N : List Int} {n a : Nat} (h : rnF xs ns n N a n) : rnF xs ns n N (a + 1) 0 := by
  refine ⟨h.1, h.2.1, fun p q hp hq => ?_⟩
  rw [h.2.2 p q hp hq]
  congr 1; rw [decide_eq_decide]; omega
theorem rnF_yes {xs ns N : List Int} {n a b S : Nat} (hP : PermP n ns) (_hn : n ≤ 8) (h : rnF xs ns n N a b) (ha : a < n) (hb : b < n) (hS : N.getD (nmN ns a) 0 = (S : Int)) (hbit : (winsN xs a).testBit b = true) :
    S < 2 ^ n ∧ S.testBit (nmN ns b) = false ∧ rnF xs ns n (N.set (nmN ns a) ((S ||| 2 ^ nmN ns b : Nat) : Int)) a (b + 1) := by
  have va := (nm_val hP ha).2
  have vb := (nm_val hP hb).2
  obtain ⟨S', e, hlt⟩ := h.2.1 _ va
  obtain rfl : S = S' := by rw [hS] at e; omega
  refine ⟨hlt, ?_, ?_⟩
  · have := h.2.2 a b ha hb
    rw [hS] at this
    simpa using this
  · refine ⟨by rw [List.length_set]; exact h.1, fun i hi => ?_, fun p q hp hq => ?_⟩
    · by_cases hi2 : i = nmN ns a
      · subst hi2
        rw [getD_set_same _ (by rw [h.1]; exact hi)]
        exact ⟨_, rfl, Nat.or_lt_two_pow hlt (Nat.pow_lt_pow_right (by decide) vb)⟩
      · rw [getD_set_other _ (Ne.symm hi2)]; exact h.2.1 i hi
    · by_cases hpa : p = a
      · subst hpa
        rw [getD_set_same _ (by rw [h.1]; exact va)]
        have h1 := h.2.2 p q hp hq
        rw [hS] at h1
        have e3 : (((S ||| 2 ^ nmN ns b : Nat) : Int)).toNat = S ||| 2 ^ nmN ns b := rfl
        have e4 : ((S : Int)).toNat = S := rfl
        rw [e4] at h1
        rw [e3, Nat.testBit_or, Nat.testBit_two_pow, h1]
        by_cases hqb : q = b
        · subst hqb; rw [hbit]; simp
        · have : decide (nmN ns b = nmN ns q) = false := by
            rw [decide_eq_false_iff_not]; intro e; exact hqb (nm_inj hP hq hb e.symm)
          rw [this, Bool.or_false]
          congr 1; rw [decide_eq_decide]; omega
      · have hne : nmN ns a ≠ nmN ns p := fun e => hpa (nm_inj hP hp ha e.symm)
        rw [getD_set_other _ hne, h.2.2 p q hp hq]
        congr 1; rw [decide_eq_decide]; omega
theorem rnF_unique {xs ns N M : List Int} {n : Nat} (hP : PermP n ns) (h1 : rnF xs ns n N n 0) (h2 : rnF xs ns n M n 0) : N = M :=
  list_ext0 h1.1 h2.1 fun i hi => by
    obtain ⟨S, e1, l1⟩ := h1.2.1 i hi
    obtain ⟨T, e2, l2⟩ := h2.2.1 i hi
    rw [e1, e2]
    congr 1
    refine Nat.eq_of_testBit_eq fun j => ?_
    by_cases hj : j < n
    · obtain ⟨p, hp, rfl⟩ := nm_surj hP hi
      obtain ⟨q, hq, rfl⟩ := nm_surj hP hj
      have a1 := h1.2.2 p q hp hq
      have a2 := h2.2.2 p q hp hq
      rw [e1] at a1
      rw [e2] at a2
      exact a1.trans a2.symm
    · have hle : 2 ^ n ≤ 2 ^ j := Nat.pow_le_pow_right (by decide) (by omega)
      rw [Nat.testBit_lt_two_pow (Nat.lt_of_lt_of_le l1 hle), Nat.testBit_lt_two_pow (Nat.lt_of_lt_of_le l2 hle)]
open Classical in
noncomputable def rnL (xs ns : List Int) : List Int := if h : ∃ N, rnF xs ns xs.length N xs.length 0 then Classical.choose h else []
theorem rnL_eq {xs ns N : List Int} {n : Nat} (hn : xs.length = n) (hP : PermP n ns) (h : rnF xs ns n N n 0) : N = rnL xs ns := by
  subst hn
  have hex : ∃ N, rnF xs ns xs.length N xs.length 0 := ⟨N, h⟩
  unfold rnL
  rw [dif_pos hex]
  exact rnF_unique hP h (Classical.choose_spec hex)
end Go.Proofs.YthoodjjjklbggaaGreatDoor

