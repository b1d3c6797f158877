/- FnExactTrianglesAt: the functions. -/
import Derived.Test.YtoblhnfnjagajaaKStep
import Derived.Test.YtoblhnfnjagajaaRowsL
import Derived.Test.YtoblhnfnjagajaaAllW
import Derived.Test.YtoblhnfnjagajaaBeat
import Derived.Test.YtoblhnfnjagajaaTourLw
namespace Go.Proofs.Ytoblhnfnjagajaa
open Go.RowKit Go.Sort
set_option maxRecDepth 100000

def btI (xs : List Int) (a b : Nat) : Bool := bitI (xs.getD a 0) b
def triP (xs : List Int) (a b c : Nat) : Bool := decide (a < b) && (decide (a < c) && (btI xs a b && (btI xs b c && btI xs c a)))
def triC (xs : List Int) (a b k : Nat) : List (List Int) := ((List.range k).filter (triP xs a b)).map fun (c : Nat) => [(a : Int), (b : Int), (c : Int)]
def triB (xs : List Int) (n a k : Nat) : List (List Int) := (List.range k).flatMap fun b => triC xs a b n
def triA (xs : List Int) (n k : Nat) : List (List Int) := (List.range k).flatMap fun a => triB xs n a n
theorem triC_succ (xs : List Int) (a b k : Nat) : triC xs a b (k + 1) = triC xs a b k ++ if triP xs a b k = true then [[(a : Int), (b : Int), (k : Int)]] else [] := by
  unfold triC
  rw [List.range_succ, List.filter_append, List.map_append]
  congr 1
  rcases h : triP xs a b k with _ | _ <;> simp [h]
theorem triB_succ (xs : List Int) (n a k : Nat) : triB xs n a (k + 1) = triB xs n a k ++ triC xs a k n := by unfold triB; rw [List.range_succ, List.flatMap_append]; simp
theorem triA_succ (xs : List Int) (n k : Nat) : triA xs n (k + 1) = triA xs n k ++ triB xs n k n := by unfold triA; rw [List.range_succ, List.flatMap_append]; simp
theorem triC_len (xs : List Int) (a b k : Nat) : (triC xs a b k).length ≤ k := by
  unfold triC
  rw [List.length_map]
  refine Nat.le_trans (List.length_filter_le _ _) ?_
  rw [List.length_range]; exact Nat.le_refl _
theorem triB_len (xs : List Int) (n a k : Nat) : (triB xs n a k).length ≤ n * k := by
  induction k with
  | zero => simp [triB]
  | succ k ih =>
    have := triC_len xs a k n
    rw [triB_succ, List.length_append, Nat.mul_succ]; omega
theorem triA_len (xs : List Int) (n k : Nat) : (triA xs n k).length ≤ n * n * k := by
  induction k with
  | zero => simp [triA]
  | succ k ih =>
    have := triB_len xs n k n
    rw [triA_succ, List.length_append, Nat.mul_succ]; omega
/-- nothing below: the counters may start behind a -/
theorem triC_low (xs : List Int) (a b : Nat) (k : Nat) (h : k ≤ a + 1) : triC xs a b k = [] := by
  induction k with
  | zero => rfl
  | succ k ih =>
    rw [triC_succ, ih (by omega)]
    have : triP xs a b k = false := by simp [triP, show ¬ a < k by omega]
    simp [this]
theorem triC_row (xs : List Int) (a b n : Nat) (h : ¬ a < b) : triC xs a b n = [] := by
  induction n with
  | zero => rfl
  | succ k ih =>
    rw [triC_succ, ih]
    have : triP xs a b k = false := by simp [triP, h]
    simp [this]
theorem triB_low (xs : List Int) (n a : Nat) (k : Nat) (h : k ≤ a + 1) : triB xs n a k = [] := by
  induction k with
  | zero => rfl
  | succ k ih => rw [triB_succ, ih (by omega), triC_row _ _ _ _ (by omega)]; rfl
/-- in how many of the first k lists x stands -/
def cntR (rows : List (List Int)) (x : Int) (k : Nat) : Nat := (rows.take k).countP fun l => containsI l x
theorem cntR_succ {rows : List (List Int)} {x : Int} {k : Nat} (hk : k < rows.length) : cntR rows x (k + 1) = cntR rows x k + if containsI (rows.getD k []) x = true then 1 else 0 := by
  unfold cntR
  rw [List.take_succ_eq_append_getElem hk, List.countP_append, show rows.getD k [] = rows[k] by simp [hk], List.countP_singleton]
theorem cntR_le (rows : List (List Int)) (x : Int) (k : Nat) : cntR rows x k ≤ k := by
  unfold cntR
  refine Nat.le_trans List.countP_le_length ?_
  rw [List.length_take]; omega
noncomputable def triI (s : Int) (xs : List Int) (a : Int) : Int := if (tourB s xs && inB a 0 (s - 1)) = true then (cntR (triA xs xs.length xs.length) a (triA xs xs.length xs.length).length : Int) else -1
theorem mem_triA {xs : List Int} {n : Nat} {l : List Int} (h : l ∈ triA xs n n) : ∃ a b c : Nat, l = [(a : Int), (b : Int), (c : Int)] := by
  unfold triA at h
  rw [List.mem_flatMap] at h
  obtain ⟨a, -, h⟩ := h
  unfold triB at h
  rw [List.mem_flatMap] at h
  obtain ⟨b, -, h⟩ := h
  unfold triC at h
  rw [List.mem_map] at h
  obtain ⟨c, -, e⟩ := h
  exact ⟨a, b, c, e.symm⟩
theorem rows_at {xs : List Int} {n k : Nat} (h : k < (triA xs n n).length) : ∃ a b c : Nat, (triA xs n n).getD k [] = [(a : Int), (b : Int), (c : Int)] := by
  rw [show (triA xs n n).getD k [] = (triA xs n n)[k] by simp [h]]
  exact mem_triA (List.getElem_mem h)
theorem nmul_le {n k : Nat} (hn : n ≤ 8) (hk : k ≤ n) : n * n * k ≤ 512 := by
  have h1 : n * n ≤ 8 * 8 := Nat.mul_le_mul hn hn
  have h2 : n * n * k ≤ 8 * 8 * 8 := Nat.mul_le_mul h1 (by omega)
  omega
set_option maxHeartbeats 2000000 in
theorem isTri_any (n : Nat) (sl lv : Value) (xs : List Int) (a b c : Nat) (w : World) (h : Rd w sl xs) (hl : xs.length = n) (h1 : 1 ≤ n) (h8 : n ≤ 8) (h2 : Rd w lv [(a : Int), (b : Int), (c : Int)]) (ha : a < n) (hb : b < n) (hc : c < n) :
    Calls Try.prog 131 #[.agg #[.int .i64 n, sl], lv] w fun e w' => e = .returned (.bool (triP xs a b c)) ∧ Below w.heap.size w w' := by
  have HR := Lib.hid h
  have HW := Lib.hid h2
  obtain ⟨A, cA, rfl, -, -, -⟩ := h
  obtain ⟨B, d, rfl, hd, hdm, hdc⟩ := h2
  obtain ⟨g, off, rfl, hg, hx⟩ := hdc (by simp)
  unfold maxLen at hdm
  have z0 := hx 0 (by simp)
  have z1 := hx 1 (by simp)
  have z2 := hx 2 (by simp)
  simp only [List.length_cons, List.length_nil, List.getD_cons_zero, List.getD_cons_succ, Nat.add_zero, Nat.zero_add] at z0 z1 z2 hd HW ⊢
  have hall : allB [(a : Int), (b : Int), (c : Int)] 0 ((n : Int) - 1) = true := by
    unfold allB
    rw [List.all_eq_true]
    intro x hx
    simp only [List.mem_cons, List.not_mem_nil, or_false] at hx
    rw [inB_true]
    omega
  have HL := Lib.hid hl
  clear hdc hx hl
  have HP : Hid (triP xs a b c = (decide (a < b) && (decide (a < c) && (btI xs a b && (btI xs b c && btI xs c a))))) := rfl
  have hba : ∀ (p q : Nat) (W : World), p < n → q < n → Below w.heap.size w W → Calls Try.prog 125 #[.agg #[.int .i64 n, .slice A xs.length cA], .int .i64 p, .int .i64 q] W fun e w' => e = .returned (.bool (btI xs p q)) ∧ Below W.heap.size W w' := fun p q W hp hq hW =>
    beats_any n (.slice A xs.length cA) xs p q W (HR.out.below hW) (by omega) (by rw [HL.out]; omega) (by omega) (by omega)
  have HBA := Lib.hid hba
  clear hba
  go_enter Try.func131, Try.ntmps131
  go_wp2_with fail
  have b0 := below_alloc1 w (.cells #[.int .i64 n, .slice A xs.length cA] 65)
  have x0 := TBox.new w n (.slice A xs.length cA) 65
  generalize w.alloc (.cells #[.int .i64 n, .slice A xs.length cA] 65) = w0 at *
  have HX0 := Lib.hid x0
  have HB0 := Lib.hid b0
  clear x0 b0
  have y0_0 := HX0.out.1
  have y1_0 := HX0.out.2
  go_wp2_with fail
  refine (allWithin_any _ [(a : Int), (b : Int), (c : Int)] 0 ((n : Int) - 1) _ (HW.out.below HB0.out)).mono ?_
  rintro e w1 ⟨rfl, hb1⟩
  rw [hall]
  have HX1 := Lib.hid (HX0.out.below hb1)
  have HB1 := Lib.hid (Below.then HB0.out hb1)
  have c0 := cell_regrown ((HB1.out.cell (p := ⟨g, off, none⟩) hg).trans z0)
  have c1 := cell_regrown ((HB1.out.cell (p := ⟨g, off + 1, none⟩) hg).trans z1)
  have c2 := cell_regrown ((HB1.out.cell (p := ⟨g, off + 2, none⟩) hg).trans z2)
  clear hb1 y0_0 y1_0 z0 z1 z2
  go_wp2_with fail
  refine wp_region_below (by kernel_rfl) (by kernel_rfl) ?_
  repeat (go_big_quiet_step (first | (with_reducible fail)))
  refine wpQuiet_nil ?_
  intro wq hbq0
  have HX2 := Lib.hid (HX1.out.below hbq0)
  have HB2 := Lib.hid (Below.then HB1.out hbq0)
  clear hbq0 c0 c1 c2 HX1 HB1
  have y0 := HX2.out.1
  have y1 := HX2.out.2
  by_cases hab : a < b
  case neg =>
    go_wp2
    go_ret
    exact ⟨ret_bool (by rw [HP.out]; simp [hab]), HB2.out⟩
  by_cases hac : a < c
  case neg =>
    go_wp2
    go_ret
    exact ⟨ret_bool (by rw [HP.out]; simp [hac]), HB2.out⟩
  go_wp2_with fail
  refine (HBA.out a b _ ha hb HB2.out).mono ?_
  rintro e w3 ⟨rfl, hb3⟩
  have HX3 := Lib.hid (HX2.out.below hb3)
  have HB3 := Lib.hid (Below.then HB2.out hb3)
  clear hb3 y0 y1
  have y0 := HX3.out.1
  have y1 := HX3.out.2
  rcases q1 : btI xs a b with _ | _
  case false =>
    go_wp2
    go_ret
    exact ⟨ret_bool (by rw [HP.out, q1]; simp), HB3.out⟩
  go_wp2_with fail
  refine (HBA.out b c _ hb hc HB3.out).mono ?_
  rintro e w4 ⟨rfl, hb4⟩
  have HX4 := Lib.hid (HX3.out.below hb4)
  have HB4 := Lib.hid (Below.then HB3.out hb4)
  clear hb4 y0 y1
  have y0 := HX4.out.1
  have y1 := HX4.out.2
  rcases q2 : btI xs b c with _ | _
  case false =>
    go_wp2
    go_ret
    exact ⟨ret_bool (by rw [HP.out, q1, q2]; simp), HB4.out⟩
  go_wp2_with fail
  refine (HBA.out c a _ hc ha HB4.out).mono ?_
  rintro e w5 ⟨rfl, hb5⟩
  have HB5 := Lib.hid (Below.then HB4.out hb5)
  clear hb5 y0 y1
  go_wp2
  go_ret
  exact ⟨ret_bool (by rw [HP.out, q1, q2]; simp [hab, hac]), HB5.out⟩
end Go.Proofs.Ytoblhnfnjagajaa
