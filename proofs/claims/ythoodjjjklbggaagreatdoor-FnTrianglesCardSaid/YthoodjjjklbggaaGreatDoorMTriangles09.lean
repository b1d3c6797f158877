/- Texts put together: TourL, Code, Cho, Pow, Defeat, Tri2, Tri3, Tri4, TgN, HeldT. -/
import Derived.Test.YthoodjjjklbggaaGreatDoorMTriangles01
import Derived.Test.YthoodjjjklbggaaGreatDoorMTriangles03
import Derived.Test.YthoodjjjklbggaaGreatDoorMTriangles02
import Derived.Test.YthoodjjjklbggaaGreatDoorMTriangles08
import Derived.Test.YthoodjjjklbggaaGreatDoorMTriangles04
import Derived.Test.YthoodjjjklbggaaGreatDoorMTriangles07
import Derived.Deep.RegionHeld3
namespace Go.Proofs.YthoodjjjklbggaaGreatDoor
open Go.RowKit Go.Sort

end Go.Proofs.YthoodjjjklbggaaGreatDoor

namespace Go.Proofs.YthoodjjjklbggaaGreatDoor
open Go.RowKit Go.Sort
set_option maxRecDepth 100000
theorem pow_lt_big {k : Nat} (h : k ≤ 50) : 2 ^ k ≤ 1125899906842624 := Nat.le_trans (Nat.pow_le_pow_right (by decide) h) (by decide)
theorem bit_num (W b : Nat) : bits .and .i64 ((W : Int) / 2 ^ b) 1 = ((W.testBit b).toNat : Int) := by
  rw [i64_and_one]
  have : (W : Int) / 2 ^ b % 2 = ((W / 2 ^ b % 2 : Nat) : Int) := by simp
  rw [this, Nat.testBit_eq_decide_div_mod_eq]
  rcases Nat.mod_two_eq_zero_or_one (W / 2 ^ b) with h | h <;> rw [h] <;> rfl
end Go.Proofs.YthoodjjjklbggaaGreatDoor

namespace Go.Proofs.YthoodjjjklbggaaGreatDoor
open Go.RowKit Go.Sort
set_option maxRecDepth 100000
variable {n : Nat} {sl : Value} {xs : List Int} {w : World}
def chK (n : Nat) : Nat → Nat
  | 0 => 1
  | i + 1 => chK n i * (n - i) / (i + 1)
def chN (n k : Nat) : Nat := if n < k then 0 else chK n k
theorem chK_le : ∀ n, n < 9 → ∀ i, i < 5 → chK n i ≤ 100 := by decide
theorem chN_le {n k : Nat} (hn : n ≤ 8) (hk : k ≤ 3) : chN n k ≤ 100 := by
  unfold chN
  split
  · omega
  · exact chK_le n (by omega) k (by omega)
set_option maxHeartbeats 1000000 in
theorem choose_any (n k : Nat) (w : World) (hn : n ≤ 8) (hk : k ≤ 3) : Calls Tryz.prog 25 #[.int .i64 n, .int .i64 k] w fun e w' => e = .returned (.int .i64 (chN n k : Nat)) ∧ w = w' := by
  have HV : Hid (chN n k = if n < k then 0 else chK n k) := rfl
  go_enter Tryz.func25, Tryz.ntmps25
  by_cases h : n < k
  · have hd : decide ((n : Int) < (k : Int)) = true := decide_eq_true (by omega)
    go_wp2
    go_ret
    exact ⟨ret_int (by rw [HV.out, if_pos h]; rfl), rfl⟩
  · have hd : decide ((n : Int) < (k : Int)) = false := decide_eq_false (by omega)
    go_wp2
    go_loop [5, 11] (fun t5 t11 => ∃ i : Nat, i ≤ k ∧ t11 = .int .i64 i ∧ t5 = .int .i64 (chK n i : Nat)) (fun _ t11 => k - (intOf t11).toNat)
    case atStart => exact ⟨0, by omega, rfl, rfl⟩
    case round =>
      obtain ⟨i, hi, rfl, rfl⟩ := hrel
      by_cases hlt : i < k
      · have HS : Hid (chK n (i + 1) = chK n i * (n - i) / (i + 1)) := rfl
        have hA := chK_le n (by omega) i (by omega)
        have hQ := chK_le n (by omega) (i + 1) (by omega)
        have HGO : Hid (wrap64 ((wrap64 ((chK n i : Int) * ((n : Int) - (i : Int)))).tdiv ((i : Int) + 1)) = ((chK n (i + 1) : Nat) : Int)) := Lib.hid (by
          rw [show (n : Int) - (i : Int) = ((n - i : Nat) : Int) by omega]
          have hP : chK n i * (n - i) ≤ 100 * 8 := Nat.mul_le_mul hA (by omega)
          have e2 : (chK n i : Int) * ((n - i : Nat) : Int) = ((chK n i * (n - i) : Nat) : Int) := by push_cast; rfl
          rw [e2, IntWalk.wrap64_in ((chK n i * (n - i) : Nat) : Int) (by omega)]
          have e4 : (((chK n i * (n - i) : Nat) : Int)).tdiv ((i : Int) + 1) = ((chK n (i + 1) : Nat) : Int) := by
            rw [HS.out, Int.tdiv_eq_ediv_of_nonneg (by omega)]
            push_cast
            rfl
          rw [e4]
          exact IntWalk.wrap64_in _ (by omega))
        clear hA hQ
        go_wp2
        go_round
        case rel => exact ⟨i + 1, by omega, by go_num, by rw [HGO.out]⟩
        case measure => simp [intOf]; omega
      · obtain rfl : i = k := by omega
        go_wp2
        go_ret
        exact ⟨ret_int (by rw [HV.out, if_neg h]), rfl⟩
/-- three from n players, less two from each score -/
def ctK (xs : List Int) (n k : Nat) : Int := (chN n 3 : Int) - (((List.range k).map fun a => chN (popN 8 (winsN xs a)) 2).sum : Nat)
theorem ctS_succ (xs : List Int) (k : Nat) : ((List.range (k + 1)).map fun a => chN (popN 8 (winsN xs a)) 2).sum = ((List.range k).map fun a => chN (popN 8 (winsN xs a)) 2).sum + chN (popN 8 (winsN xs k)) 2 := by
  rw [List.range_succ, List.map_append, List.sum_append]; simp
theorem ctS_le (xs : List Int) (k : Nat) : ((List.range k).map fun a => chN (popN 8 (winsN xs a)) 2).sum ≤ k * 100 := by
  induction k with
  | zero => simp
  | succ k ih =>
    rw [ctS_succ]
    have := chN_le (popN_le 8 (winsN xs k)) (by decide : 2 ≤ 3)
    omega
set_option maxHeartbeats 2000000 in
theorem cTriCount (hp : tourP n xs) (h : Rd w sl xs) : Calls Tryz.prog 6 #[.agg #[.int .i64 n, sl]] w fun e w' => e = .returned (.int .i64 (ctK xs n n)) ∧ Below w.heap.size w w' := by
  have HR := Lib.hid h
  obtain ⟨A, cA, rfl, -, -, -⟩ := h
  rw [tour_len hp] at *
  have HP := Lib.hid hp
  have HL := Lib.hid (tour_len hp)
  have h8 : n ≤ 8 := by have := hp.1; omega
  clear hp
  go_enter Tryz.func6, Tryz.ntmps6
  go_wp2_with fail
  have b0 := below_alloc1 w (.cells #[.int .i64 n, .slice A n cA] 25)
  have x0 := TBox.new w n (.slice A n cA) 25
  generalize w.alloc (.cells #[.int .i64 n, .slice A n cA] 25) = w0 at *
  have HX0 := Lib.hid x0
  have HB0 := Lib.hid b0
  clear x0 b0
  have y0_0 := HX0.out.1
  have y1_0 := HX0.out.2
  go_wp2_with fail
  refine (implTourOk n _ xs _ (HR.out.below HB0.out)).mono ?_
  rintro e w1 ⟨rfl, hb⟩
  rw [tourB_true.2 HP.out]
  have HB1 := Lib.hid (Below.then HB0.out hb)
  have HX1 := Lib.hid (HX0.out.below hb)
  clear hb y0_0 y1_0 HX0 HB0
  have y0_1 := HX1.out.1
  have y1_1 := HX1.out.2
  go_wp2_with fail
  refine (choose_any n 3 w1 h8 (by decide)).mono ?_
  rintro e w2 ⟨rfl, rfl⟩
  go_wp2
  go_loopw [3, 13] (fun t3 t13 wr => ∃ k : Nat, k ≤ n ∧ t13 = .int .i64 k ∧ t3 = .int .i64 (ctK xs n k) ∧ Hid (TBox wr w.heap.size n (.slice A n cA)) ∧ Hid (Below w.heap.size w wr)) (fun _ t13 _ => n - (intOf t13).toNat)
  case atStart => exact ⟨0, by omega, rfl, by simp [ctK], HX1, HB1⟩
  case round =>
    obtain ⟨wa, rfl⟩ : ∃ x, x = wr := ⟨_, rfl⟩
    obtain ⟨k, hk, rfl, rfl, HX, HB⟩ := hrel
    clear HX1 HB1 y0_1 y1_1
    by_cases hlt : k < n
    · as_aux_lemma =>
      have y0 := HX.out.1
      have y1 := HX.out.2
      go_wp2_with fail
      refine (score_any n _ xs k _ (HR.out.below HB.out) HP.out (by rw [HL.out]; exact hlt)).mono ?_
      rintro e w3 ⟨rfl, hb3⟩
      have HX3 := Lib.hid (HX.out.below hb3)
      have HB3 := Lib.hid (Below.then HB.out hb3)
      have hs8 := popN_le 8 (winsN xs k)
      have HS := Lib.hid (ctS_succ xs k)
      have hle := ctS_le xs k
      have hc3 := chN_le h8 (by decide : 3 ≤ 3)
      have hc2 := chN_le hs8 (by decide : 2 ≤ 3)
      have HCK : Hid (∀ j, ctK xs n j = (chN n 3 : Int) - (((List.range j).map fun a => chN (popN 8 (winsN xs a)) 2).sum : Nat)) := Lib.hid fun _ => rfl
      clear hb3 HX HB y0 y1
      generalize hs : popN 8 (winsN xs k) = s at *
      clear hs
      go_wp2_with fail
      refine (choose_any s 2 w3 hs8 (by decide)).mono ?_
      rintro e w4 ⟨rfl, rfl⟩
      have HNX : Hid (ctK xs n (k + 1) = ctK xs n k - (chN s 2 : Int)) := Lib.hid (by rw [HCK.out, HCK.out, HS.out]; push_cast; omega)
      have hb1 : -800 ≤ ctK xs n k ∧ ctK xs n k ≤ 100 := by rw [HCK.out]; omega
      generalize ctK xs n k = T at *
      generalize chN s 2 = C at *
      go_wp2
      go_roundw
      case rel => exact ⟨k + 1, by omega, by go_num, by rw [HNX.out], HX3, HB3⟩
      case measure => simp [intOf]; omega
    · as_aux_lemma =>
      obtain rfl : k = n := by omega
      go_wp2
      go_ret
      exact ⟨rfl, HB.out⟩
end Go.Proofs.YthoodjjjklbggaaGreatDoor

namespace Go.Proofs.YthoodjjjklbggaaGreatDoor
open Go.RowKit Go.Sort

/-- the sum over the first j whom a beats -/
def pwT (xs ys : List Int) (a j : Nat) : Int := (((memN (winsN xs a) 8).take j).map fun b => ys.getD b 0).sum
def pwAt (xs ys : List Int) (a : Nat) : Int := pwT xs ys a (memN (winsN xs a) 8).length
def pwStep (xs ys : List Int) : List Int := (List.range xs.length).map (pwAt xs ys)
def pwL (xs : List Int) : Nat → List Int
  | 0 => List.replicate xs.length 1
  | k + 1 => pwStep xs (pwL xs k)
def PB (B : Int) (ys : List Int) : Prop := ∀ b : Nat, 0 ≤ ys.getD b 0 ∧ ys.getD b 0 ≤ B
theorem pwT_zero (xs ys : List Int) (a : Nat) : pwT xs ys a 0 = 0 := by simp [pwT]
theorem pwT_succ {xs ys : List Int} {a j : Nat} (h : j < (memN (winsN xs a) 8).length) : pwT xs ys a (j + 1) = pwT xs ys a j + ys.getD ((memN (winsN xs a) 8).getD j 0) 0 := by
  unfold pwT
  rw [take_snocN h, List.map_append, List.sum_append, getD_nat h]
  simp
theorem pwT_bd {xs ys : List Int} {B : Int} (hB : PB B ys) (a j : Nat) (h : j ≤ (memN (winsN xs a) 8).length) : 0 ≤ pwT xs ys a j ∧ pwT xs ys a j ≤ B * j := by
  induction j with
  | zero => simp [pwT_zero]
  | succ j ih =>
    have ih := ih (by omega)
    have hb := hB ((memN (winsN xs a) 8).getD j 0)
    rw [pwT_succ (by omega)]
    have : B * ((j + 1 : Nat) : Int) = B * j + B := by rw [Int.natCast_add, Int.mul_add]; simp
    omega
theorem pwT_bd' {xs ys : List Int} {B : Int} (hB : PB B ys) (h0 : 0 ≤ B) (h1 : B ≤ 68719476736) (a j : Nat) (h : j ≤ (memN (winsN xs a) 8).length) : 0 ≤ pwT xs ys a j ∧ pwT xs ys a j ≤ 549755813888 := by
  have h2 := pwT_bd (xs := xs) hB a j h
  have hl := memN_len (winsN xs a) 8
  have : B * (j : Int) ≤ B * 8 := Int.mul_le_mul_of_nonneg_left (by omega) h0
  omega
theorem memL_cells' {w : World} {base S k q d : Nat} {A : Option Addr} (h : Own w base (.slice A q d) (memL S k)) (hq : (memN S k).length = q) (h0 : 0 < q) :
    ∃ g off, A = some ⟨g, off, none⟩ ∧ g < w.heap.size ∧ ∀ j, j < q → w.cell? ⟨g, off + j, none⟩ = some (.int .i64 ((memN S k).getD j 0 : Nat)) := by
  obtain ⟨A', c, e, -, -, hx⟩ := memL_cells h
  injection e with e1 _ _
  subst e1
  rw [hq] at hx
  obtain ⟨g, off, e, hg, hz⟩ := hx h0
  exact ⟨g, off, e, hg, hz⟩
theorem pwAt_bd {xs ys : List Int} {B : Int} (hB : PB B ys) (h0 : 0 ≤ B) (a : Nat) : 0 ≤ pwAt xs ys a ∧ pwAt xs ys a ≤ B * 8 := by
  have h := pwT_bd (xs := xs) hB a _ (Nat.le_refl _)
  have hl := memN_len (winsN xs a) 8
  have : B * ((memN (winsN xs a) 8).length : Int) ≤ B * 8 := Int.mul_le_mul_of_nonneg_left (by omega) h0
  unfold pwAt
  omega
theorem pwStep_len (xs ys : List Int) : (pwStep xs ys).length = xs.length := by simp [pwStep]
theorem pwL_len (xs : List Int) (k : Nat) : (pwL xs k).length = xs.length := by cases k <;> simp [pwL, pwStep_len]
theorem pwStep_at {xs ys : List Int} {a : Nat} (h : a < xs.length) : (pwStep xs ys).getD a 0 = pwAt xs ys a := by simp [pwStep, h]
theorem pwL_bd (xs : List Int) (k : Nat) : PB (8 ^ k : Int) (pwL xs k) := by
  induction k with
  | zero =>
    intro b
    by_cases h : b < xs.length
    · simp [pwL, h]
    · simp [pwL, Nat.le_of_not_lt h]
  | succ k ih =>
    intro b
    have h0 : (0 : Int) ≤ 8 ^ k := Int.pow_nonneg (by decide)
    by_cases h : b < xs.length
    · rw [pwL, pwStep_at h, Int.pow_succ]
      exact pwAt_bd ih h0 b
    · have : (pwL xs (k + 1)).getD b 0 = 0 := by
        rw [List.getD_eq_getElem?_getD, List.getElem?_eq_none (by rw [pwL_len]; omega)]; rfl
      rw [this, Int.pow_succ]
      omega
theorem pw8 {k : Nat} (h : k ≤ 12) : (8 : Int) ^ k ≤ 68719476736 := by
  have : (8 : Nat) ^ k ≤ 8 ^ 12 := Nat.pow_le_pow_right (by decide) h
  have e : ((8 ^ k : Nat) : Int) = (8 : Int) ^ k := by simp
  rw [← e]
  have e2 : (8 : Nat) ^ 12 = 68719476736 := by decide
  omega
noncomputable def pwR (s : Int) (xs : List Int) (k : Int) : List Int := if (tourB s xs && inB k 0 12) = true then pwL xs k.toNat else []
theorem pwR_len (s : Int) (xs : List Int) (k : Int) : (pwR s xs k).length ≤ 8 := by
  unfold pwR
  split
  · rename_i h
    rw [Bool.and_eq_true] at h
    have := (tourB_true.1 h.1).1
    have := (tourB_true.1 h.1).2.1
    rw [pwL_len]; omega
  · simp
theorem getD_rep (n i : Nat) : (List.replicate n (0 : Int)).getD i 0 = 0 := by
  by_cases h : i < n
  · simp [h]
  · simp [Nat.le_of_not_lt h]
/-- the row that grows: done below a, the j-th partial sum at a, zeros above -/
def pwRow (xs ys N : List Int) (n a j : Nat) : Prop := ∀ i, i < n → N.getD i 0 = if i < a then pwAt xs ys i else if i = a then pwT xs ys a j else 0
theorem pwRow_start {xs ys : List Int} {n : Nat} : pwRow xs ys (List.replicate n 0) n 0 0 := fun i _ => by
  rw [getD_rep, pwT_zero]; simp
theorem pwRow_next {xs ys N : List Int} {n a : Nat} (h : pwRow xs ys N n a (memN (winsN xs a) 8).length) : pwRow xs ys N n (a + 1) 0 := fun i hi => by
  rw [h i hi, pwT_zero]
  by_cases h1 : i < a
  · rw [if_pos h1, if_pos (by omega)]
  · rw [if_neg h1]
    by_cases h2 : i = a
    · subst h2; rw [if_pos rfl, if_pos (by omega)]; rfl
    · rw [if_neg h2, if_neg (by omega)]; simp
theorem pwRow_step {xs ys N : List Int} {n a j : Nat} {v : Int} (hl : N.length = n) (h : pwRow xs ys N n a j) (ha : a < n) (hv : pwT xs ys a (j + 1) = v) : pwRow xs ys (N.set a v) n a (j + 1) := fun i hi => by
  by_cases h2 : i = a
  · subst h2
    rw [getD_set_same _ (by omega), if_neg (by omega), if_pos rfl, hv]
  · rw [getD_set_other _ (Ne.symm h2), h i hi, if_neg h2, if_neg h2]
theorem pwRow_at {xs ys N : List Int} {n a j : Nat} (h : pwRow xs ys N n a j) (ha : a < n) : N.getD a 0 = pwT xs ys a j := by
  rw [h a ha, if_neg (by omega), if_pos rfl]
theorem pwRow_end {xs ys N : List Int} {n : Nat} (hn : xs.length = n) (hl : N.length = n) (h : pwRow xs ys N n n 0) : N = pwStep xs ys :=
  list_ext0 hl (by rw [pwStep_len, hn]) fun i hi => by
    rw [h i hi, if_pos hi, pwStep_at (by omega)]
end Go.Proofs.YthoodjjjklbggaaGreatDoor

namespace Go.Proofs.YthoodjjjklbggaaGreatDoor
open Go.RowKit Go.Sort

/-- the defeats against the first t who beat a -/
def lsT (xs : List Int) (a t : Nat) : Int := (((loseN xs a xs.length).take t).map fun b => (xs.length : Int) - 1 - scN xs b).sum
def dsAt (xs : List Int) (a : Nat) : Int := pwAt xs (pwL xs 1) a - lsT xs a (loseN xs a xs.length).length
def dsL (xs : List Int) : List Int := (List.range xs.length).map (dsAt xs)
noncomputable def dsR (s : Int) (xs : List Int) : List Int := if tourB s xs = true then dsL xs else []
theorem dsR_len (s : Int) (xs : List Int) : (dsR s xs).length ≤ 8 := by
  unfold dsR
  split
  · rename_i h
    have := (tourB_true.1 h).1
    have := (tourB_true.1 h).2.1
    simp [dsL]; omega
  · simp
theorem loseN_len (xs : List Int) (a k : Nat) : (loseN xs a k).length ≤ k := by
  unfold loseN
  refine Nat.le_trans (List.length_filter_le _ _) ?_
  rw [List.length_range]; exact Nat.le_refl _
theorem sum_bd2 {l : List Nat} {F : Nat → Int} {B : Int} (h : ∀ b ∈ l, -B ≤ F b ∧ F b ≤ B) : -(B * l.length) ≤ (l.map F).sum ∧ (l.map F).sum ≤ B * l.length := by
  induction l with
  | nil => simp
  | cons b l ih =>
    have ih := ih fun c hc => h c (by simp [hc])
    have hb := h b (by simp)
    have : B * ((b :: l).length : Int) = B * (l.length : Int) + B := by rw [List.length_cons, Int.natCast_add, Int.mul_add]; simp
    rw [List.map_cons, List.sum_cons]
    omega
theorem lsT_bd {xs : List Int} (h8 : xs.length ≤ 8) (a t : Nat) : -128 ≤ lsT xs a t ∧ lsT xs a t ≤ 128 := by
  have := sum_bd2 (l := (loseN xs a xs.length).take t) (F := fun b => (xs.length : Int) - 1 - scN xs b) (B := 16) (fun b _ => by have := scN_bd xs b; omega)
  have h1 : ((loseN xs a xs.length).take t).length ≤ 8 := by rw [List.length_take]; have := loseN_len xs a xs.length; omega
  unfold lsT
  omega
theorem lsT_succ {xs : List Int} {a t : Nat} (h : t < (loseN xs a xs.length).length) : lsT xs a (t + 1) = lsT xs a t + ((xs.length : Int) - 1 - scN xs ((loseN xs a xs.length).getD t 0)) := by
  unfold lsT
  rw [take_snocN h, List.map_append, List.sum_append, getD_nat h]
  simp
theorem lsT_zero (xs : List Int) (a : Nat) : lsT xs a 0 = 0 := by simp [lsT]
theorem pw1_at {s : Int} {xs : List Int} (hp : tourP s xs) {b : Nat} (hb : b < xs.length) : (pwL xs 1).getD b 0 = scN xs b := by
  rw [show pwL xs 1 = pwStep xs (pwL xs 0) from rfl, pwStep_at hb]
  unfold pwAt pwT scN
  rw [List.take_length, pop_mem (tour_wins hp hb).2.2]
  have : ∀ c ∈ memN (winsN xs b) 8, (pwL xs 0).getD c 0 = 1 := fun c hc => by
    have := wins_mem hp hb c hc
    simp [pwL, this]
  rw [List.map_congr_left this]
  generalize memN (winsN xs b) 8 = l
  clear this
  induction l with
  | nil => rfl
  | cons c l ih => rw [List.map_cons, List.sum_cons, ih, List.length_cons]; omega
/-- the row that grows: the power scores, what is lost taken off below a, the first t at a -/
def dsRow (xs P N : List Int) (n a t : Nat) : Prop := ∀ i, i < n → N.getD i 0 = if i < a then P.getD i 0 - lsT xs i (loseN xs i xs.length).length else if i = a then P.getD a 0 - lsT xs a t else P.getD i 0
theorem dsRow_start {xs P : List Int} {n : Nat} : dsRow xs P P n 0 0 := fun i _ => by
  by_cases h : i = 0
  · subst h; simp [lsT_zero]
  · simp [h]
theorem dsRow_next {xs P N : List Int} {n a : Nat} (h : dsRow xs P N n a (loseN xs a xs.length).length) : dsRow xs P N n (a + 1) 0 := fun i hi => by
  rw [h i hi, lsT_zero]
  by_cases h1 : i < a
  · rw [if_pos h1, if_pos (by omega)]
  · rw [if_neg h1]
    by_cases h2 : i = a
    · subst h2; rw [if_pos rfl, if_pos (by omega)]
    · rw [if_neg h2, if_neg (by omega)]
      by_cases h3 : i = a + 1
      · subst h3; simp
      · rw [if_neg h3]
theorem dsRow_step {xs P N : List Int} {n a t : Nat} {v : Int} (hl : N.length = n) (h : dsRow xs P N n a t) (ha : a < n) (hv : P.getD a 0 - lsT xs a (t + 1) = v) : dsRow xs P (N.set a v) n a (t + 1) := fun i hi => by
  by_cases h2 : i = a
  · subst h2
    rw [getD_set_same _ (by omega), if_neg (by omega), if_pos rfl, hv]
  · rw [getD_set_other _ (Ne.symm h2), h i hi, if_neg h2, if_neg h2]
theorem dsRow_at {xs P N : List Int} {n a t : Nat} (h : dsRow xs P N n a t) (ha : a < n) : N.getD a 0 = P.getD a 0 - lsT xs a t := by
  rw [h a ha, if_neg (by omega), if_pos rfl]
theorem dsRow_end {xs N : List Int} {n : Nat} (hn : xs.length = n) (hl : N.length = n) (h : dsRow xs (pwL xs 2) N n n 0) : N = dsL xs :=
  list_ext0 hl (by simp [dsL, hn]) fun i hi => by
    rw [h i hi, if_pos hi, show pwL xs 2 = pwStep xs (pwL xs 1) from rfl, pwStep_at (by omega)]
    simp [dsL, dsAt, show i < xs.length by omega]
def scL (xs : List Int) (k : Nat) : List Int := (List.range k).map (scN xs)
theorem scL_succ (xs : List Int) (k : Nat) : scL xs (k + 1) = scL xs k ++ [scN xs k] := by unfold scL; rw [List.range_succ, List.map_append]; rfl
theorem scL_len (xs : List Int) (k : Nat) : (scL xs k).length = k := by simp [scL]
theorem scL_at (xs : List Int) {k b : Nat} (h : b < k) : (scL xs k).getD b 0 = scN xs b := by simp [scL, h]
end Go.Proofs.YthoodjjjklbggaaGreatDoor

namespace Go.Proofs.YthoodjjjklbggaaGreatDoor
open Go.RowKit Go.Sort
set_option maxRecDepth 100000
theorem own_row3 (w : World) (base : Nat) (a b c : Int) (hb : base ≤ w.heap.size) : Own (w.alloc (.cells #[.int .i64 a, .int .i64 b, .int .i64 c] 3)) base (.slice (some ⟨w.heap.size, 0, none⟩) 3 3) [a, b, c] := Own.lit w base [a, b, c] hb (by simp)
theorem OwnRows.alloc {w : World} {base : Nat} {v : Value} {rows : List (List Int)} (h : OwnRows w base v rows) (o : Obj) : OwnRows (w.alloc o) base v rows := h.below (below_alloc1 w o)
set_option maxHeartbeats 4000000 in
theorem triangles_any (s : Int) (sl : Value) (xs : List Int) (w : World) (h : Rd w sl xs) (hp : tourP s xs) :
    Calls Tryz.prog 24 #[.agg #[.int .i64 s, sl]] w fun e w' => ∃ v', e = .returned v' ∧ OwnRows w' w.heap.size v' (triA xs xs.length xs.length) ∧ Below w.heap.size w w' := by
  have HR := Lib.hid h
  obtain ⟨A, cA, rfl, -, -, -⟩ := h
  obtain ⟨n, rfl⟩ : ∃ n : Nat, s = n := ⟨s.toNat, by have := hp.1; omega⟩
  have h1 : 1 ≤ n := by have := hp.1; omega
  have h8 : n ≤ 8 := by have := hp.1; omega
  have hl : xs.length = n := by have := hp.2.1; omega
  have HL := Lib.hid hl
  clear hl hp
  go_enter Tryz.func24, Tryz.ntmps24
  go_wp2_with fail
  have b0 := below_alloc1 w (.cells #[.int .i64 n, .slice A xs.length cA] 25)
  have x0 := TBox.new w n (.slice A xs.length cA) 25
  generalize w.alloc (.cells #[.int .i64 n, .slice A xs.length cA] 25) = w0 at *
  have HX0 := Lib.hid x0
  have HB0 := Lib.hid b0
  clear x0 b0
  have y0_0 := HX0.out.1
  have y1_0 := HX0.out.2
  go_wp2
  go_loopw [3, 10] (fun v i wr => ∃ a : Nat, a ≤ n ∧ i = .int .i64 a ∧ OwnRows wr (w.heap.size + 1) v (triA xs n a) ∧ TBox wr w.heap.size n (.slice A xs.length cA) ∧ Below w.heap.size w wr) (fun _ i _ => n - (intOf i).toNat)
  case atStart => exact ⟨0, by omega, rfl, OwnRows.nil_ _ _, HX0.out, HB0.out⟩
  case round =>
    obtain ⟨wa, rfl⟩ : ∃ x, x = wr := ⟨_, rfl⟩
    obtain ⟨a, ha, rfl, ho, hx, hb⟩ := hrel
    have HO := Lib.hid ho
    have HX := Lib.hid hx
    have HB := Lib.hid hb
    have ya0 := hx.1
    clear ho hx hb y0_0 y1_0
    by_cases hlta : a < n
    · have HSA := Lib.hid (triA_succ xs n a)
      go_wp2
      go_loopw [3, 15] (fun v i wr => ∃ b : Nat, b ≤ n ∧ i = .int .i64 b ∧ OwnRows wr (w.heap.size + 1) v (triA xs n a ++ triB xs n a b) ∧ TBox wr w.heap.size n (.slice A xs.length cA) ∧ Below w.heap.size w wr) (fun _ i _ => n - (intOf i).toNat)
      case atStart => exact ⟨0, by omega, rfl, by have := HO.out; simpa [triB] using this, HX.out, HB.out⟩
      case round =>
        obtain ⟨wb, rfl⟩ : ∃ x, x = wr := ⟨_, rfl⟩
        obtain ⟨b, hb2, rfl, ho, hx, hb⟩ := hrel
        have HO := Lib.hid ho
        have HX := Lib.hid hx
        have HB := Lib.hid hb
        have yb0 := hx.1
        clear ho hx hb ya0
        by_cases hltb : b < n
        · have HSB := Lib.hid (triB_succ xs n a b)
          go_wp2
          go_loopw [3, 20] (fun v i wr => ∃ c : Nat, c ≤ n ∧ i = .int .i64 c ∧ OwnRows wr (w.heap.size + 1) v (triA xs n a ++ triB xs n a b ++ triC xs a b c) ∧ TBox wr w.heap.size n (.slice A xs.length cA) ∧ Below w.heap.size w wr) (fun _ i _ => n - (intOf i).toNat)
          case atStart => exact ⟨0, by omega, rfl, by have := HO.out; simpa [triC] using this, HX.out, HB.out⟩
          case round =>
            obtain ⟨c, hc2, rfl, ho, hx, hb⟩ := hrel
            by_cases hltc : c < n
            · have HSC := Lib.hid (triC_succ xs a b c)
              have l1 := triA_len xs n a
              have l2 := triB_len xs n a b
              have l3 := triC_len xs a b c
              have l4 := nmul_le h8 (show a ≤ n by omega)
              have l5 : n * b ≤ 8 * 8 := Nat.mul_le_mul h8 (by omega)
              have hlen : (triA xs n a ++ triB xs n a b ++ triC xs a b c).length ≤ 1048576 := by rw [List.length_append, List.length_append]; omega
              clear l1 l2 l3 l4 l5 yb0
              have hsz : w.heap.size + 1 ≤ wr.heap.size := World.block_lt_of_cell? _ _ hx.1
              have hr := own_row3 wr wr.heap.size a b c (Nat.le_refl _)
              have HO0 := Lib.hid ho
              have ba := below_alloc1 wr (.cells #[.int .i64 a, .int .i64 b, .int .i64 c] 3)
              have hXa := hx.below ba
              have yw0 := hXa.1
              have yw1 := hXa.2
              have HOr := Lib.hid (ho.below ba)
              have HXr := Lib.hid hXa
              have HBr := Lib.hid (Below.then hb ba)
              have HRr := Lib.hid hr
              have HBa := Lib.hid ba
              clear ho hx hb hr ba hXa
              go_wp2_with fail
              refine (isTri_any n (.slice A xs.length cA) _ xs a b c _ (HR.out.below HBr.out) HL.out h1 h8 HRr.out.rd hlta hltb hltc).mono ?_
              rintro e w5 ⟨rfl, hb5⟩
              have HO5 := Lib.hid (HOr.out.below hb5)
              have HX5 := Lib.hid (HXr.out.below hb5)
              have HB5 := Lib.hid (Below.then HBr.out hb5)
              have HR5 := Lib.hid (HRr.out.below hb5)
              have HBW := Lib.hid (Below.then HBa.out hb5)
              have hsz5 : w.heap.size + 1 ≤ w5.heap.size := World.block_lt_of_cell? _ _ HX5.out.1
              clear hb5 yw0 yw1
              generalize hX : triA xs n a ++ triB xs n a b ++ triC xs a b c = X at *
              have HXX := Lib.hid hX
              clear hX
              rcases q : triP xs a b c with _ | _
              · go_wp2
                go_roundw
                case rel => exact ⟨c + 1, by omega, by go_num, by rw [HSC.out, q, ← List.append_assoc, HXX.out]; simpa using HO5.out, HX5.out, HB5.out⟩
                case measure => simp [intOf]; omega
              · go_wp2_with (at_builtin; refine wp_append1V w5 rfl (.tmp 30) (.tmp 32) rfl (w.heap.size + 1) _ _ _ _ wr rfl HO0.out HBW.out HR5.out hsz (by simp [Act.eval]) hlen ?_; intro v' w7 ho7 hg7; have HO7 := Lib.hid ho7; have HX7 := Lib.hid (HX5.out.kept hg7 (nb_ne (own_ne (fun k hk => (HO5.out.lt k hk).1) (Nat.lt_succ_self _)))); have HB7 := Lib.hid (below_appendV HB5.out hg7 HO5.out (Nat.le_succ _) hsz5); clear ho7 hg7)
                go_roundw
                case rel => exact ⟨c + 1, by omega, by go_num, by rw [HSC.out, q, ← List.append_assoc, HXX.out]; exact HO7.out, HX7.out, HB7.out⟩
                case measure => simp [intOf]; omega
            · obtain rfl : n = c := by omega
              have HO2 := Lib.hid ho
              have HX2 := Lib.hid hx
              have HB2 := Lib.hid hb
              clear ho hx hb yb0
              go_wp2
              go_roundw
              case rel => exact ⟨b + 1, by omega, by go_num, by rw [HSB.out, ← List.append_assoc]; exact HO2.out, HX2.out, HB2.out⟩
              case measure => simp [intOf]; omega
        · obtain rfl : n = b := by omega
          clear yb0
          go_wp2
          go_roundw
          case rel => exact ⟨a + 1, by omega, by go_num, by rw [HSA.out]; exact HO.out, HX.out, HB.out⟩
          case measure => simp [intOf]; omega
    · obtain rfl : n = a := by omega
      clear ya0
      go_wp2
      go_ret
      exact ⟨_, rfl, by rw [HL.out]; exact HO.out.mono (Nat.le_succ _), HB.out⟩
end Go.Proofs.YthoodjjjklbggaaGreatDoor

namespace Go.Proofs.YthoodjjjklbggaaGreatDoor
open Go.RowKit Go.Sort
set_option maxRecDepth 100000
set_option maxHeartbeats 4000000 in
theorem l04All_any (s : Int) (sl : Value) (xs : List Int) (w : World) (h : Rd w sl xs) (hp : tourP s xs) :
    Calls Tryz.prog 38 #[.agg #[.int .i64 s, sl]] w fun e w' => ∃ v', e = .returned v' ∧ OwnRows w' w.heap.size v' (triA xs xs.length xs.length) ∧ Below w.heap.size w w' := by
  have HR := Lib.hid h
  obtain ⟨A, cA, rfl, -, -, -⟩ := h
  obtain ⟨n, rfl⟩ : ∃ n : Nat, s = n := ⟨s.toNat, by have := hp.1; omega⟩
  have h1 : 1 ≤ n := by have := hp.1; omega
  have h8 : n ≤ 8 := by have := hp.1; omega
  have hl : xs.length = n := by have := hp.2.1; omega
  have HSELF := Lib.hid (fun (b : Nat) (hb : b < xs.length) => (hp.2.2.2 b hb).1)
  have HL := Lib.hid hl
  clear hl hp
  have HP : Hid (∀ a b c, triP xs a b c = (decide (a < b) && (decide (a < c) && (btI xs a b && (btI xs b c && btI xs c a))))) := fun _ _ _ => rfl
  have hba : ∀ (p q : Nat) (W : World), p < n → q < n → Below w.heap.size w W → Calls Tryz.prog 68 #[.agg #[.int .i64 n, .slice A xs.length cA], .int .i64 p, .int .i64 q] W fun e w' => e = .returned (.bool (btI xs p q)) ∧ Below W.heap.size W w' := fun p q W hp hq hW =>
    l02Beats_any n (.slice A xs.length cA) xs p q W (HR.out.below hW) (by omega) (by rw [HL.out]; omega) (by omega) (by omega)
  have HBA := Lib.hid hba
  clear hba
  have x0 := (TBox.new w n (.slice A xs.length cA) 25).below (below_alloc1 _ (.cells #[] 23))
  have yz0 := x0.1
  have HX0 := Lib.hid x0
  have HB0 := Lib.hid ((below_alloc1 w (.cells #[.int .i64 n, .slice A xs.length cA] 25)).alloc (by simp) (.cells #[] 23))
  have o0 := OwnRows.lit0 (w.alloc (.cells #[.int .i64 n, .slice A xs.length cA] 25)) (w.heap.size + 1) (by simp)
  simp only [World.size_alloc] at o0
  have HO0 := Lib.hid o0
  clear x0 o0
  go_enter Tryz.func38, Tryz.ntmps38
  go_wp2
  go_loopw [3, 4] (fun v i wr => ∃ a : Nat, a ≤ n ∧ i = .int .i64 a ∧ OwnRows wr (w.heap.size + 1) v (triA xs n a) ∧ TBox wr w.heap.size n (.slice A xs.length cA) ∧ Below w.heap.size w wr) (fun _ i _ => n - (intOf i).toNat)
  case atStart => exact ⟨0, by omega, rfl, HO0.out, HX0.out, HB0.out⟩
  case round =>
    obtain ⟨wa, rfl⟩ : ∃ x, x = wr := ⟨_, rfl⟩
    obtain ⟨a, ha, rfl, ho, hx, hb⟩ := hrel
    have HO := Lib.hid ho
    have HX := Lib.hid hx
    have HB := Lib.hid hb
    have ya0 := hx.1
    clear ho hx hb yz0
    by_cases hlta : a < n
    · have HSA := Lib.hid (triA_succ xs n a)
      have HLB := Lib.hid (triB_low xs n a (a + 1) (Nat.le_refl _))
      go_wp2
      go_loopw [3, 5] (fun v i wr => ∃ b : Nat, a < b ∧ b ≤ n ∧ i = .int .i64 b ∧ OwnRows wr (w.heap.size + 1) v (triA xs n a ++ triB xs n a b) ∧ TBox wr w.heap.size n (.slice A xs.length cA) ∧ Below w.heap.size w wr) (fun _ i _ => n - (intOf i).toNat)
      case atStart => exact ⟨a + 1, by omega, by omega, by go_num, by rw [HLB.out, List.append_nil]; exact HO.out, HX.out, HB.out⟩
      case round =>
        obtain ⟨wb, rfl⟩ : ∃ x, x = wr := ⟨_, rfl⟩
        obtain ⟨b, hab, hb2, rfl, ho, hx, hb⟩ := hrel
        have HO := Lib.hid ho
        have HX := Lib.hid hx
        have HB := Lib.hid hb
        have yb0 := hx.1
        clear ho hx hb ya0
        by_cases hltb : b < n
        · have HSB := Lib.hid (triB_succ xs n a b)
          have HLC := Lib.hid (triC_low xs a b (a + 1) (Nat.le_refl _))
          go_wp2
          go_loopw [3, 6] (fun v i wr => ∃ c : Nat, a < c ∧ c ≤ n ∧ i = .int .i64 c ∧ OwnRows wr (w.heap.size + 1) v (triA xs n a ++ triB xs n a b ++ triC xs a b c) ∧ TBox wr w.heap.size n (.slice A xs.length cA) ∧ Below w.heap.size w wr) (fun _ i _ => n - (intOf i).toNat)
          case atStart => exact ⟨a + 1, by omega, by omega, by go_num, by rw [HLC.out, List.append_nil]; exact HO.out, HX.out, HB.out⟩
          case round =>
            obtain ⟨c, hac, hc2, rfl, ho, hx, hb⟩ := hrel
            have y0 := hx.1
            have y1 := hx.2
            by_cases hltc : c < n
            · have HSC := Lib.hid (triC_succ xs a b c)
              have HPC := Lib.hid (HP.out a b c)
              have l1 := triA_len xs n a
              have l2 := triB_len xs n a b
              have l3 := triC_len xs a b c
              have l4 := nmul_le h8 (show a ≤ n by omega)
              have l5 : n * b ≤ 8 * 8 := Nat.mul_le_mul h8 (by omega)
              have hlen : (triA xs n a ++ triB xs n a b ++ triC xs a b c).length ≤ 1048576 := by rw [List.length_append, List.length_append]; omega
              clear l1 l2 l3 l4 l5 yb0
              have HO1 := Lib.hid ho
              have HX1 := Lib.hid hx
              have HB1 := Lib.hid hb
              clear ho hx hb
              generalize hX : triA xs n a ++ triB xs n a b ++ triC xs a b c = X at *
              have HXX := Lib.hid hX
              clear hX
              by_cases hcb : c = b
              · subst hcb
                have hq : triP xs a c c = false := by
                  have : btI xs c c = false := HSELF.out c (by rw [HL.out]; omega)
                  rw [HPC.out, this]; simp
                have hne : ((c : Int) != (c : Int)) = false := by simp
                have HQ := Lib.hid hq
                clear hq
                go_wp2
                go_roundw
                case rel => exact ⟨c + 1, by omega, by omega, by go_num, by rw [HSC.out, HQ.out, ← List.append_assoc, HXX.out]; simpa using HO1.out, HX1.out, HB1.out⟩
                case measure => simp [intOf]; omega
              · have hne : ((c : Int) != (b : Int)) = true := by simp; omega
                go_wp2_with fail
                refine (HBA.out a b _ hlta hltb HB1.out).mono ?_
                rintro e w3 ⟨rfl, hb3⟩
                have HO3 := Lib.hid (HO1.out.below hb3)
                have HX3 := Lib.hid (HX1.out.below hb3)
                have HB3 := Lib.hid (Below.then HB1.out hb3)
                clear hb3 y0 y1
                have y0 := HX3.out.1
                have y1 := HX3.out.2
                rcases q1 : btI xs a b with _ | _
                case false =>
                  have HQ : Hid (triP xs a b c = false) := by unfold Hid; rw [HPC.out, q1]; simp
                  go_wp2
                  go_roundw
                  case rel => exact ⟨c + 1, by omega, by omega, by go_num, by rw [HSC.out, HQ.out, ← List.append_assoc, HXX.out]; simpa using HO3.out, HX3.out, HB3.out⟩
                  case measure => simp [intOf]; omega
                go_wp2_with fail
                refine (HBA.out b c _ hltb hltc HB3.out).mono ?_
                rintro e w4 ⟨rfl, hb4⟩
                have HO4 := Lib.hid (HO3.out.below hb4)
                have HX4 := Lib.hid (HX3.out.below hb4)
                have HB4 := Lib.hid (Below.then HB3.out hb4)
                clear hb4 y0 y1
                have y0 := HX4.out.1
                have y1 := HX4.out.2
                rcases q2 : btI xs b c with _ | _
                case false =>
                  have HQ : Hid (triP xs a b c = false) := by unfold Hid; rw [HPC.out, q1, q2]; simp
                  go_wp2
                  go_roundw
                  case rel => exact ⟨c + 1, by omega, by omega, by go_num, by rw [HSC.out, HQ.out, ← List.append_assoc, HXX.out]; simpa using HO4.out, HX4.out, HB4.out⟩
                  case measure => simp [intOf]; omega
                go_wp2_with fail
                refine (HBA.out c a _ hltc hlta HB4.out).mono ?_
                rintro e w5 ⟨rfl, hb5⟩
                have HO5 := Lib.hid (HO4.out.below hb5)
                have HX5 := Lib.hid (HX4.out.below hb5)
                have HB5 := Lib.hid (Below.then HB4.out hb5)
                clear hb5 y0 y1
                rcases q3 : btI xs c a with _ | _
                case false =>
                  have HQ : Hid (triP xs a b c = false) := by unfold Hid; rw [HPC.out, q1, q2, q3]; simp
                  go_wp2
                  go_roundw
                  case rel => exact ⟨c + 1, by omega, by omega, by go_num, by rw [HSC.out, HQ.out, ← List.append_assoc, HXX.out]; simpa using HO5.out, HX5.out, HB5.out⟩
                  case measure => simp [intOf]; omega
                have HQ : Hid (triP xs a b c = true) := by unfold Hid; rw [HPC.out, q1, q2, q3]; simp [hab, hac]
                have hsz5 : w.heap.size + 1 ≤ w5.heap.size := World.block_lt_of_cell? _ _ HX5.out.1
                have hr := own_row3 w5 w5.heap.size a b c (Nat.le_refl _)
                have ba := below_alloc1 w5 (.cells #[.int .i64 a, .int .i64 b, .int .i64 c] 3)
                have HOr := Lib.hid (HO5.out.below ba)
                have HXr := Lib.hid (HX5.out.below ba)
                have HBr := Lib.hid (Below.then HB5.out ba)
                have HRr := Lib.hid hr
                have HBW := Lib.hid ba
                clear hr ba
                go_wp2_with (at_builtin; refine wp_append1V (w5.alloc (.cells #[.int .i64 a, .int .i64 b, .int .i64 c] 3)) rfl (.tmp 51) (.tmp 56) rfl (w.heap.size + 1) _ _ _ _ w5 rfl HO5.out HBW.out HRr.out hsz5 (by simp [Act.eval]) hlen ?_; intro v' w7 ho7 hg7; have HO7 := Lib.hid ho7; have HX7 := Lib.hid (HXr.out.kept hg7 (nb_ne (own_ne (fun k hk => (HOr.out.lt k hk).1) (Nat.lt_succ_self _)))); have HB7 := Lib.hid (below_appendV HBr.out hg7 HOr.out (Nat.le_succ _) (by simp; omega)); clear ho7 hg7)
                go_roundw
                case rel => exact ⟨c + 1, by omega, by omega, by go_num, by rw [HSC.out, HQ.out, ← List.append_assoc, HXX.out]; exact HO7.out, HX7.out, HB7.out⟩
                case measure => simp [intOf]; omega
            · obtain rfl : n = c := by omega
              have HO2 := Lib.hid ho
              have HX2 := Lib.hid hx
              have HB2 := Lib.hid hb
              clear ho hx hb yb0
              go_wp2
              go_roundw
              case rel => exact ⟨b + 1, by omega, by omega, by go_num, by rw [HSB.out, ← List.append_assoc]; exact HO2.out, HX2.out, HB2.out⟩
              case measure => simp [intOf]; omega
        · obtain rfl : n = b := by omega
          go_wp2
          go_roundw
          case rel => exact ⟨a + 1, by omega, by go_num, by rw [HSA.out]; exact HO.out, HX.out, HB.out⟩
          case measure => simp [intOf]; omega
    · obtain rfl : n = a := by omega
      go_wp2
      go_ret
      exact ⟨_, rfl, by rw [HL.out]; exact HO.out.mono (Nat.le_succ _), HB.out⟩
end Go.Proofs.YthoodjjjklbggaaGreatDoor

namespace Go.Proofs.YthoodjjjklbggaaGreatDoor
open Go.RowKit Go.Sort
set_option maxRecDepth 100000
set_option maxHeartbeats 2000000 in
theorem implTri (s : Int) (sl : Value) (xs : List Int) (a : Int) (w : World) (h : Rd w sl xs) :
    Calls Tryz.prog 7 #[.agg #[.int .i64 s, sl], .int .i64 a] w fun e w' => e = .returned (.int .i64 (triI s xs a)) ∧ Below w.heap.size w w' := by
  have HR := Lib.hid h
  obtain ⟨A, c, rfl, -, -, -⟩ := h
  rcases q0 : tourB s xs with _ | _
  case false =>
    go_enter Tryz.func7, Tryz.ntmps7
    go_wp2_with fail
    have b0 := below_alloc1 w (.cells #[.int .i64 s, .slice A xs.length c] 25)
    have x0 := TBox.new w s (.slice A xs.length c) 25
    generalize w.alloc (.cells #[.int .i64 s, .slice A xs.length c] 25) = w0 at *
    have HX0 := Lib.hid x0
    have HB0 := Lib.hid b0
    clear x0 b0
    have y0_0 := HX0.out.1
    have y1_0 := HX0.out.2
    go_wp2_with fail
    refine (implTourOk s _ xs _ (HR.out.below HB0.out)).mono ?_
    rintro e w1 ⟨rfl, hb⟩
    have HX1 := Lib.hid (HX0.out.below hb)
    have HB1 := Lib.hid (Below.then HB0.out hb)
    clear hb HX0 HB0 y0_0 y1_0
    have y0_1 := HX1.out.1
    have y1_1 := HX1.out.2
    rw [q0]
    go_wp2
    go_ret
    exact ⟨ret_int (by simp [triI, *]), HB1.out⟩
  have hp := tourB_true.1 q0
  have hs := hp.1
  have hl := hp.2.1
  rcases q1 : inB a 0 (s - 1) with _ | _
  case false =>
    go_enter Tryz.func7, Tryz.ntmps7
    go_wp2_with fail
    have b0 := below_alloc1 w (.cells #[.int .i64 s, .slice A xs.length c] 25)
    have x0 := TBox.new w s (.slice A xs.length c) 25
    generalize w.alloc (.cells #[.int .i64 s, .slice A xs.length c] 25) = w0 at *
    have HX0 := Lib.hid x0
    have HB0 := Lib.hid b0
    clear x0 b0
    have y0_0 := HX0.out.1
    have y1_0 := HX0.out.2
    go_wp2_with fail
    refine (implTourOk s _ xs _ (HR.out.below HB0.out)).mono ?_
    rintro e w1 ⟨rfl, hb⟩
    have HX1 := Lib.hid (HX0.out.below hb)
    have HB1 := Lib.hid (Below.then HB0.out hb)
    clear hb HX0 HB0 y0_0 y1_0
    have y0_1 := HX1.out.1
    have y1_1 := HX1.out.2
    rw [q0]
    go_wp2_with fail
    refine (has_any s (.slice A xs.length c) a _ (by omega)).mono ?_
    rintro e w2 ⟨rfl, hb⟩
    have HX2 := Lib.hid (HX1.out.below hb)
    have HB2 := Lib.hid (Below.then HB1.out hb)
    clear hb HX1 HB1 y0_1 y1_1
    have y0_2 := HX2.out.1
    have y1_2 := HX2.out.2
    rw [q1]
    go_wp2
    go_ret
    exact ⟨ret_int (by simp [triI, *]), HB2.out⟩
  have ha := inB_true.1 q1
  go_enter Tryz.func7, Tryz.ntmps7
  go_wp2_with fail
  have b0 := below_alloc1 w (.cells #[.int .i64 s, .slice A xs.length c] 25)
  have x0 := TBox.new w s (.slice A xs.length c) 25
  generalize w.alloc (.cells #[.int .i64 s, .slice A xs.length c] 25) = w0 at *
  have HX0 := Lib.hid x0
  have HB0 := Lib.hid b0
  clear x0 b0
  have y0_0 := HX0.out.1
  have y1_0 := HX0.out.2
  go_wp2_with fail
  refine (implTourOk s _ xs _ (HR.out.below HB0.out)).mono ?_
  rintro e w1 ⟨rfl, hb⟩
  have HX1 := Lib.hid (HX0.out.below hb)
  have HB1 := Lib.hid (Below.then HB0.out hb)
  clear hb HX0 HB0 y0_0 y1_0
  have y0_1 := HX1.out.1
  have y1_1 := HX1.out.2
  rw [q0]
  go_wp2_with fail
  refine (has_any s (.slice A xs.length c) a _ (by omega)).mono ?_
  rintro e w2 ⟨rfl, hb⟩
  have HX2 := Lib.hid (HX1.out.below hb)
  have HB2 := Lib.hid (Below.then HB1.out hb)
  clear hb HX1 HB1 y0_1 y1_1
  have y0_2 := HX2.out.1
  have y1_2 := HX2.out.2
  rw [q1]
  have hF : Hid (triI s xs a = (cntR (triA xs xs.length xs.length) a (triA xs xs.length xs.length).length : Int)) := by unfold Hid; simp [triI, q0, q1]
  have hl8 : xs.length ≤ 8 := by omega
  have hm := triA_len xs xs.length xs.length
  have hm2 := nmul_le hl8 (Nat.le_refl _)
  go_wp2_with fail
  refine (triangles_any s _ xs _ (HR.out.below HB2.out) hp).mono ?_
  rintro e w3 ⟨v, rfl, ho, hb3⟩
  have HB3 := Lib.hid (Below.then HB2.out hb3)
  obtain ⟨B, d, rfl, hd, hdl, hrow⟩ := ho.form
  unfold maxLen at hd
  have HROW := Lib.hid hrow
  clear hb3 ho hrow y0_2 y1_2 hl hl8
  generalize triA xs xs.length xs.length = rows at *
  generalize hmm : rows.length = m at *
  have HM := Lib.hid hmm
  clear hmm
  have hm5 : m ≤ 512 := by omega
  clear hm hm2
  go_wp2
  go_loop [5, 20] (fun t i => ∃ k : Nat, k ≤ m ∧ i = .int .i64 k ∧ t = .int .i64 (cntR rows a k : Nat)) (fun _ i => m - (intOf i).toNat)
  case atStart => exact ⟨0, by omega, rfl, by simp [cntR]⟩
  case round =>
    obtain ⟨k, hk, rfl, rfl⟩ := hrel
    have hle := cntR_le rows a k
    by_cases hlt : k < m
    · obtain ⟨g, rfl, hg, hcell⟩ := HROW.out (by omega)
      obtain ⟨C, e2, hc1, hc2⟩ := hcell k hlt
      have HRD := Lib.hid hc2.rd
      have HS := Lib.hid (cntR_succ (x := a) (show k < rows.length by rw [HM.out]; exact hlt))
      clear hcell hc2
      generalize hq : rows.getD k [] = row at *
      clear hq
      rcases q3 : containsI row a with _ | _
      · go_wp2_with fail
        refine (contains_any _ row a _ HRD.out).mono ?_
        rintro e wz ⟨rfl, rfl⟩
        rw [q3]
        go_wp2
        go_round
        case rel => exact ⟨k + 1, by omega, by go_num, by rw [HS.out, q3]; simp⟩
        case measure => simp [intOf]; omega
      · go_wp2_with fail
        refine (contains_any _ row a _ HRD.out).mono ?_
        rintro e wz ⟨rfl, rfl⟩
        rw [q3]
        go_wp2
        go_round
        case rel => exact ⟨k + 1, by omega, by go_num, by rw [HS.out, q3]; go_num⟩
        case measure => simp [intOf]; omega
    · obtain rfl : m = k := by omega
      go_wp2
      go_ret
      exact ⟨ret_int hF.out.symm, HB3.out⟩
end Go.Proofs.YthoodjjjklbggaaGreatDoor

namespace Go.Proofs.YthoodjjjklbggaaGreatDoor
open Go.RowKit Go.Sort
set_option maxRecDepth 100000
section
variable {n : Nat} {xs ys zs : List Int}
/-- a bit as a number -/
def eI (xs : List Int) (a b : Nat) : Int := if bt xs a b = true then 1 else 0
theorem eI_self (hp : tourP n xs) {a : Nat} (ha : a < n) : eI xs a a = 0 := by unfold eI; rw [(tr_bit hp ha ha).1 rfl]; rfl
theorem eI_turn (hp : tourP n xs) {a b : Nat} (ha : a < n) (hb : b < n) (hab : a ≠ b) : eI xs b a = 1 - eI xs a b := by
  unfold eI
  rw [(tr_bit hp ha hb).2 hab]
  cases bt xs b a <;> rfl
theorem eI_cases (xs : List Int) (a b : Nat) : eI xs a b = 0 ∨ eI xs a b = 1 := by unfold eI; cases bt xs a b <;> simp
theorem eI_sq (xs : List Int) (a b : Nat) : eI xs a b * eI xs a b = eI xs a b := by rcases eI_cases xs a b with h | h <;> rw [h] <;> rfl
theorem sc_e (hp : tourP n xs) {a : Nat} (ha : a < n) : sumN (fun b => eI xs a b) n = scN xs a := (sc_sum hp ha).symm
theorem by_e (hp : tourP n xs) {b : Nat} (hb : b < n) : sumN (fun a => eI xs a b) n = n - 1 - scN xs b := by_sum hp hb
theorem beqF {x y : Nat} (h : ¬ x = y) : (x == y) = false := by simpa using h
theorem sumN_mulr (c : Int) (f : Nat → Int) (n : Nat) : sumN (fun k => f k * c) n = sumN f n * c := by
  rw [Int.mul_comm, ← sumN_mul]
  exact sumN_congr fun k _ => Int.mul_comm _ _
/-- both beaten by a: each pair is ordered one way -/
theorem tri_top (hp : tourP n xs) {a : Nat} (ha : a < n) : 2 * sumN (fun b => sumN (fun c => eI xs a b * eI xs b c * eI xs a c) n) n = scN xs a * scN xs a - scN xs a := by
  have h1 : sumN (fun b => sumN (fun c => eI xs a b * eI xs a c) n) n = scN xs a * scN xs a := by
    rw [← sc_e hp ha, ← sumN_mulr]
    exact sumN_congr fun b _ => sumN_mul _ _ _
  have h2 : sumN (fun b => sumN (fun c => eI xs a b * eI xs b c * eI xs a c) n) n = sumN (fun b => sumN (fun c => eI xs a b * eI xs c b * eI xs a c) n) n := by
    rw [sumN_swap]
    exact sumN_congr fun b _ => sumN_congr fun c _ => by rw [Int.mul_comm, Int.mul_comm (eI xs a c), ← Int.mul_assoc]
  have h3 : sumN (fun b => sumN (fun c => eI xs a b * eI xs a c) n) n = sumN (fun b => sumN (fun c => eI xs a b * eI xs b c * eI xs a c) n + sumN (fun c => eI xs a b * eI xs c b * eI xs a c) n + eI xs a b) n := by
    refine sumN_congr fun b hb => ?_
    rw [← sumN_add, show eI xs a b = sumN (fun c => if c = b then eI xs a b else 0) n by
      rw [sumN_one hb (fun k _ hk => by rw [if_neg hk]), if_pos rfl], ← sumN_add]
    refine sumN_congr fun c hc => ?_
    rw [sumN_one hb (fun k _ hk => by rw [if_neg hk]), if_pos rfl]
    by_cases e : c = b
    · subst e
      rw [eI_self hp hc, if_pos rfl, Int.mul_zero, Int.zero_mul, eI_sq]; omega
    · rw [if_neg e, eI_turn hp hb hc (Ne.symm e)]
      rcases eI_cases xs a b with h | h <;> rcases eI_cases xs b c with h' | h' <;> rcases eI_cases xs a c with h'' | h'' <;> rw [h, h', h''] <;> rfl
  rw [sumN_add, sumN_add, ← h2, sc_e hp ha, h1] at h3
  omega
/-- three times the triangles, by scores -/
theorem cyc_sum (hp : tourP n xs) : 2 * sumN (fun a => sumN (fun b => sumN (fun c => eI xs a b * eI xs b c * eI xs c a) n) n) n = sumN (fun a => 2 * (scN xs a * (n - 1 - scN xs a)) - (scN xs a * scN xs a - scN xs a)) n := by
  have h1 : sumN (fun a => sumN (fun b => sumN (fun c => eI xs a b * eI xs b c * eI xs c a) n) n) n
      = sumN (fun a => sumN (fun b => sumN (fun c => eI xs a b * eI xs b c) n) n) n - sumN (fun a => sumN (fun b => sumN (fun c => eI xs a b * eI xs b c * eI xs a c) n) n) n := by
    rw [← sumN_sub]
    refine sumN_congr fun a ha => ?_
    rw [← sumN_sub]
    refine sumN_congr fun b hb => ?_
    rw [← sumN_sub]
    refine sumN_congr fun c hc => ?_
    by_cases e : a = c
    · subst e
      rw [eI_self hp ha]
      by_cases e2 : a = b
      · subst e2; rw [eI_self hp ha]; rfl
      · rw [eI_turn hp ha hb e2]
        rcases eI_cases xs a b with h | h <;> rw [h] <;> rfl
    · rw [eI_turn hp ha hc e]
      rcases eI_cases xs a b with h | h <;> rcases eI_cases xs b c with h' | h' <;> rcases eI_cases xs a c with h'' | h'' <;> rw [h, h', h''] <;> rfl
  have h2 : sumN (fun a => sumN (fun b => sumN (fun c => eI xs a b * eI xs b c) n) n) n = sumN (fun b => scN xs b * (n - 1 - scN xs b)) n := by
    rw [sumN_swap]
    refine sumN_congr fun b hb => ?_
    rw [← by_e hp hb, ← sumN_mul]
    refine sumN_congr fun a ha => ?_
    rw [sumN_mul, sc_e hp hb, Int.mul_comm]
  rw [h1, h2, Int.mul_sub, ← sumN_mul, ← sumN_mul, ← sumN_sub]
  exact sumN_congr fun a ha => by rw [tri_top hp ha]
theorem two_ch : ∀ s, s < 9 → (2 * chN s 2 : Nat) = ((s : Int) * s - s) := by decide
theorem six_ch : ∀ s, s < 9 → (6 * chN s 3 : Nat) = ((s : Int) * (s - 1) * (s - 2)) := by decide
theorem ct_sum (hp : tourP n xs) : 6 * ctK xs n n = n * (n - 1) * (n - 2) - 3 * sumN (fun a => scN xs a * scN xs a - scN xs a) n := by
  have h8 : n ≤ 8 := by have := hp.1; omega
  unfold ctK
  have h1 : 2 * ((((List.range n).map fun a => chN (popN 8 (winsN xs a)) 2).sum : Nat) : Int) = sumN (fun a => scN xs a * scN xs a - scN xs a) n := by
    rw [show ((((List.range n).map fun a => chN (popN 8 (winsN xs a)) 2).sum : Nat) : Int) = ((List.range n).map fun a => (chN (popN 8 (winsN xs a)) 2 : Int)).sum by
      generalize List.range n = l
      induction l with
      | nil => rfl
      | cons a l ih => simp only [List.map_cons, List.sum_cons] at ih ⊢; push_cast; rw [← ih]]
    rw [map_sumN, ← sumN_mul]
    refine sumN_congr fun a ha => ?_
    have h2 := popN_le 8 (winsN xs a)
    have h3 := two_ch (popN 8 (winsN xs a)) (by omega)
    unfold scN
    rw [← h3]; push_cast; rfl
  have h4 := six_ch n (by omega)
  push_cast at h4
  generalize ((((List.range n).map fun a => chN (popN 8 (winsN xs a)) 2).sum : Nat) : Int) = X at *
  rw [← h1, ← h4]
  omega
theorem sc_total (hp : tourP n xs) : 2 * sumN (fun a => scN xs a) n = n * (n - 1) := by
  have h1 : sumN (fun a => scN xs a) n = sumN (fun b => (n : Int) - 1 - scN xs b) n := by
    rw [show sumN (fun a => scN xs a) n = sumN (fun a => sumN (fun b => eI xs a b) n) n from sumN_congr fun a ha => (sc_e hp ha).symm, sumN_swap]
    exact sumN_congr fun b hb => by_e hp hb
  rw [sumN_sub, sumN_const] at h1
  generalize sumN (fun a => scN xs a) n = S at *
  generalize (n : Int) * ((n : Int) - 1) = P at *
  omega
theorem cyc_ct (hp : tourP n xs) : sumN (fun a => sumN (fun b => sumN (fun c => eI xs a b * eI xs b c * eI xs c a) n) n) n = 3 * ctK xs n n := by
  have h1 := cyc_sum hp
  have h2 := ct_sum hp
  have h3 := sc_total hp
  rw [show sumN (fun a => 2 * (scN xs a * (n - 1 - scN xs a)) - (scN xs a * scN xs a - scN xs a)) n = (2 * (n - 1) + 1) * sumN (fun a => scN xs a) n - 3 * sumN (fun a => scN xs a * scN xs a) n by
    rw [← sumN_mul, ← sumN_mul, ← sumN_sub]
    refine sumN_congr fun a _ => ?_
    generalize scN xs a = s
    generalize (n : Int) = m
    grind] at h1
  rw [sumN_sub] at h2
  generalize sumN (fun a => scN xs a) n = S at *
  generalize sumN (fun a => scN xs a * scN xs a) n = Q at *
  generalize sumN (fun a => sumN (fun b => sumN (fun c => eI xs a b * eI xs b c * eI xs c a) n) n) n = C at *
  generalize ctK xs n n = K at *
  have h4 : (2 * ((n : Int) - 1) + 1) * S = ((n : Int) - 1) * ((n : Int) * ((n : Int) - 1)) + S := by
    rw [← h3, Int.add_mul, Int.one_mul, Int.mul_comm 2, Int.mul_assoc]
  rw [h4] at h1
  have h5 : (n : Int) * ((n : Int) - 1) * ((n : Int) - 2) = ((n : Int) - 1) * ((n : Int) * ((n : Int) - 1)) - (n : Int) * ((n : Int) - 1) := by
    rw [Int.mul_comm ((n : Int) - 1) ((n : Int) * ((n : Int) - 1)), Int.mul_sub ((n : Int) * ((n : Int) - 1)), Int.mul_sub ((n : Int) * ((n : Int) - 1)), Int.mul_one]
    generalize (n : Int) * ((n : Int) - 1) = P
    generalize P * (n : Int) = R
    omega
  rw [h5, ← h3] at h2
  rw [← h3] at h1
  generalize ((n : Int) - 1) * (2 * S) = R at *
  omega
/-- a triangle of the list as a number -/
def mI (xs : List Int) (a b c : Nat) : Int := if triP xs a b c = true then 1 else 0
theorem triC_sum (xs : List Int) (a b : Nat) : ∀ k, ((triC xs a b k).length : Int) = sumN (fun c => mI xs a b c) k := by
  intro k
  induction k with
  | zero => rfl
  | succ k ih =>
    rw [triC_succ, List.length_append, sumN, ← ih]
    unfold mI
    split <;> simp
theorem triB_sum (xs : List Int) (n a : Nat) : ∀ k, ((triB xs n a k).length : Int) = sumN (fun b => sumN (fun c => mI xs a b c) n) k := by
  intro k
  induction k with
  | zero => rfl
  | succ k ih => rw [triB_succ, List.length_append, sumN, ← ih, ← triC_sum]; push_cast; rfl
theorem triA_sum (xs : List Int) (n : Nat) : ∀ k, ((triA xs n k).length : Int) = sumN (fun a => sumN (fun b => sumN (fun c => mI xs a b c) n) n) k := by
  intro k
  induction k with
  | zero => rfl
  | succ k ih => rw [triA_succ, List.length_append, sumN, ← ih, ← triB_sum]; push_cast; rfl
theorem mI_eq (hp : tourP n xs) {a b c : Nat} (ha : a < n) (hb : b < n) (hc : c < n) : mI xs a b c = if a < b ∧ a < c then eI xs a b * eI xs b c * eI xs c a else 0 := by
  unfold mI triP
  rw [tg_bit hp ha, tg_bit hp hb, tg_bit hp hc]
  unfold eI
  by_cases h1 : a < b <;> by_cases h2 : a < c <;> simp [h1, h2]
  cases bt xs a b <;> cases bt xs b c <;> cases bt xs c a <;> rfl
theorem cyc_split (hp : tourP n xs) {a b c : Nat} (ha : a < n) (hb : b < n) (hc : c < n) : eI xs a b * eI xs b c * eI xs c a = mI xs a b c + mI xs b c a + mI xs c a b := by
  rw [mI_eq hp ha hb hc, mI_eq hp hb hc ha, mI_eq hp hc ha hb]
  rw [show eI xs b c * eI xs c a * eI xs a b = eI xs a b * eI xs b c * eI xs c a by rw [Int.mul_comm, Int.mul_assoc], show eI xs c a * eI xs a b * eI xs b c = eI xs a b * eI xs b c * eI xs c a by rw [Int.mul_assoc, Int.mul_comm]]
  by_cases e1 : a = b
  · subst e1; rw [eI_self hp ha]; simp
  by_cases e2 : b = c
  · subst e2; rw [eI_self hp hb]; simp
  by_cases e3 : c = a
  · subst e3; rw [eI_self hp hc]; simp
  generalize eI xs a b * eI xs b c * eI xs c a = X
  split <;> split <;> split <;> omega
theorem tri_count (hp : tourP n xs) : ((triA xs n n).length : Int) = ctK xs n n := by
  have h1 := cyc_ct hp
  have h2 : sumN (fun a => sumN (fun b => sumN (fun c => eI xs a b * eI xs b c * eI xs c a) n) n) n = sumN (fun a => sumN (fun b => sumN (fun c => mI xs a b c + mI xs b c a + mI xs c a b) n) n) n :=
    sumN_congr fun a ha => sumN_congr fun b hb => sumN_congr fun c hc => cyc_split hp ha hb hc
  rw [h2] at h1
  have h3 : sumN (fun a => sumN (fun b => sumN (fun c => mI xs a b c + mI xs b c a + mI xs c a b) n) n) n
      = sumN (fun a => sumN (fun b => sumN (fun c => mI xs a b c) n) n) n + sumN (fun a => sumN (fun b => sumN (fun c => mI xs b c a) n) n) n + sumN (fun a => sumN (fun b => sumN (fun c => mI xs c a b) n) n) n := by
    rw [← sumN_add, ← sumN_add]
    refine sumN_congr fun a _ => ?_
    rw [← sumN_add, ← sumN_add]
    refine sumN_congr fun b _ => ?_
    rw [← sumN_add, ← sumN_add]
  have h4 : sumN (fun a => sumN (fun b => sumN (fun c => mI xs b c a) n) n) n = sumN (fun a => sumN (fun b => sumN (fun c => mI xs a b c) n) n) n := by
    rw [sumN_swap]
    exact sumN_congr fun b _ => sumN_swap (fun a c => mI xs b c a) n n
  have h5 : sumN (fun a => sumN (fun b => sumN (fun c => mI xs c a b) n) n) n = sumN (fun a => sumN (fun b => sumN (fun c => mI xs a b c) n) n) n := by
    rw [show sumN (fun a => sumN (fun b => sumN (fun c => mI xs c a b) n) n) n = sumN (fun a => sumN (fun c => sumN (fun b => mI xs c a b) n) n) n from sumN_congr fun a _ => sumN_swap (fun b c => mI xs c a b) n n, sumN_swap]
  rw [h3, h4, h5, ← triA_sum] at h1
  omega
/-! each triangle has three players -/
theorem tg_contains (p q r a : Int) : containsI [p, q, r] a = ((p == a) || ((q == a) || (r == a))) := by
  unfold containsI
  rw [Bool.eq_iff_iff]
  simp only [List.mem_cons, List.not_mem_nil, or_false, decide_eq_true_eq, Bool.or_eq_true, beq_iff_eq]
  constructor <;> (rintro (h | h | h) <;> simp [h])
theorem row_three {r : List Int} (hp : tourP n xs) (h : r ∈ triA xs n n) : sumN (fun x => if containsI r x = true then (1 : Int) else 0) n = 3 := by
  obtain ⟨a, b, c, rfl, ht⟩ := (mem_tri hp).1 h
  obtain ⟨n1, n2, n3⟩ := tg_ne hp ht
  obtain ⟨ha, hb, hc, -⟩ := ht
  have e : ∀ x : Nat, (if containsI [(a : Int), (b : Int), (c : Int)] x = true then (1 : Int) else 0) = (if x = a then 1 else 0) + (if x = b then 1 else 0) + (if x = c then 1 else 0) := fun x => by
    rw [tg_contains]
    by_cases e1 : x = a
    · subst e1; simp [n1, n3]
    · by_cases e2 : x = b
      · subst e2; simp [Ne.symm n1, n2]
      · by_cases e3 : x = c
        · subst e3; simp [e1, e2]
        · have f1 : ¬ (x : Int) = a := by omega
          simp [e1, e2, e3]; omega
  rw [sumN_congr (fun x _ => e x), sumN_add, sumN_add, sumN_one ha (fun k _ hk => by rw [if_neg hk]), sumN_one hb (fun k _ hk => by rw [if_neg hk]), sumN_one hc (fun k _ hk => by rw [if_neg hk])]
  simp
theorem at_sum (rows : List (List Int)) (h : ∀ r ∈ rows, sumN (fun x => if containsI r x = true then (1 : Int) else 0) n = 3) : sumN (fun x => (cntR rows x rows.length : Int)) n = 3 * rows.length := by
  have e : ∀ x : Nat, cntR rows x rows.length = rows.countP fun l => containsI l x := fun x => by unfold cntR; rw [List.take_length]
  rw [sumN_congr (fun x _ => by rw [e x])]
  clear e
  induction rows with
  | nil => exact sumN_zero' fun k _ => by simp
  | cons r rows ih =>
    have h1 := ih (fun r' hr' => h r' (List.mem_cons_of_mem _ hr'))
    have h2 := h r (by simp)
    rw [show (fun x : Nat => (((r :: rows).countP fun l => containsI l x : Nat) : Int)) = fun x : Nat => ((rows.countP fun l => containsI l x : Nat) : Int) + (if containsI r x = true then (1 : Int) else 0) by
      funext x
      rw [List.countP_cons]
      push_cast
      split <;> simp, sumN_add, h1, h2, List.length_cons]
    push_cast
    omega
theorem at_total (hp : tourP n xs) : sumN (fun x => (cntR (triA xs n n) x (triA xs n n).length : Int)) n = 3 * (triA xs n n).length := at_sum _ fun _ hr => row_three hp hr
/-! scores stay -/
theorem rv3_score (hp : tourP n xs) {a b c : Nat} (h : tgP xs n a b c) {x : Nat} (hx : x < n) : scN (rv3 xs a b c) x = scN xs x := by
  obtain ⟨n1, n2, n3⟩ := tg_ne hp h
  have hq := rv3_tour hp h.1 h.2.1 h.2.2.1 n1 n2 n3
  obtain ⟨ha, hb, hc, h1, h2, h3, h4, h5⟩ := h
  have hB := fun (y : Nat) => rv3_bt hp ha hb hc n1 n2 n3 (x := x) (y := y) hx
  have k1 : bt xs b a = false := by have := (tr_bit hp hb ha).2 (Ne.symm n1); rw [h3] at this; exact this
  have k2 : bt xs c b = false := by have := (tr_bit hp hc hb).2 (Ne.symm n2); rw [h4] at this; exact this
  have k3 : bt xs a c = false := by have := (tr_bit hp ha hc).2 n3; rw [h5] at this; exact this
  obtain ⟨t1, t2, t3, t4, t5, t6⟩ := tE_at n1 n2 n3
  rw [sc_sum hq hx, sc_sum hp hx]
  have key : sumN (fun y => (if bt (rv3 xs a b c) x y = true then (1 : Int) else 0) - (if bt xs x y = true then 1 else 0)) n = 0 := by
    by_cases e1 : x = a
    · subst e1
      rw [sumN_two hb hc n2 (fun k _ hk1 hk2 => by
        rw [hB k, show tE x b c x k = false by
          unfold tE
          simp [beqF hk1, beqF hk2, beqF n1, beqF n3]
          , Bool.xor_false, Int.sub_self]), hB b, hB c, t1, t6, h3, k3]
      rfl
    · by_cases e2 : x = b
      · subst e2
        rw [sumN_two ha hc n3 (fun k _ hk1 hk2 => by
          rw [hB k, show tE a x c x k = false by
            unfold tE
            simp [beqF hk1, beqF hk2, beqF (Ne.symm n1), beqF n2]
            , Bool.xor_false, Int.sub_self]), hB a, hB c, t2, t3, h4, k1]
        rfl
      · by_cases e3 : x = c
        · subst e3
          rw [sumN_two ha hb n1 (fun k _ hk1 hk2 => by
            rw [hB k, show tE a b x x k = false by
              unfold tE
              simp [beqF hk1, beqF hk2, beqF (Ne.symm n3), beqF (Ne.symm n2)]
              , Bool.xor_false, Int.sub_self]), hB a, hB b, t5, t4, h5, k2]
          rfl
        · exact sumN_zero' fun k _ => by
            rw [hB k, show tE a b c x k = false by
              unfold tE
              simp [beqF e1, beqF e2, beqF e3]
              , Bool.xor_false, Int.sub_self]
  rw [sumN_sub] at key
  omega
theorem rv3_scores (hp : tourP n xs) {a b c : Nat} (h : tgP xs n a b c) : scL (rv3 xs a b c) n = scL xs n := by
  unfold scL
  exact List.map_congr_left fun x hx => rv3_score hp h (List.mem_range.1 hx)
/-! how many games differ -/
theorem df_sum (xs ys : List Int) (n : Nat) : ∀ k, (dfK xs ys n k : Int) = sumN (fun a => sumN (fun b => if (bt xs a b && !bt ys a b) = true then (1 : Int) else 0) n) k := by
  intro k
  induction k with
  | zero => rfl
  | succ k ih =>
    rw [dfK_succ, sumN, ← ih]
    push_cast
    congr 1
    generalize n = m
    induction m with
    | zero => rfl
    | succ m ih2 =>
      rw [List.range_succ, List.countP_append, sumN, ← ih2]
      push_cast
      congr 1
      rw [List.countP_singleton]
      split <;> simp
theorem df_three (hp : tourP n xs) {a b c : Nat} (h : tgP xs n a b c) : dfK xs (rv3 xs a b c) n n = 3 := by
  obtain ⟨n1, n2, n3⟩ := tg_ne hp h
  obtain ⟨ha, hb, hc, h1, h2, h3, h4, h5⟩ := h
  have k1 : bt xs b a = false := by have := (tr_bit hp hb ha).2 (Ne.symm n1); rw [h3] at this; exact this
  have k2 : bt xs c b = false := by have := (tr_bit hp hc hb).2 (Ne.symm n2); rw [h4] at this; exact this
  have k3 : bt xs a c = false := by have := (tr_bit hp ha hc).2 n3; rw [h5] at this; exact this
  have e : ∀ x, x < n → ∀ y, (if (bt xs x y && !bt (rv3 xs a b c) x y) = true then (1 : Int) else 0) = (if x = a then (if y = b then 1 else 0) else 0) + (if x = b then (if y = c then 1 else 0) else 0) + (if x = c then (if y = a then 1 else 0) else 0) := fun x hx y => by
    rw [rv3_bt hp ha hb hc n1 n2 n3 hx]
    rw [show (bt xs x y && !(bt xs x y ^^ tE a b c x y)) = (bt xs x y && tE a b c x y) by cases bt xs x y <;> cases tE a b c x y <;> rfl]
    by_cases e1 : x = a
    · subst e1
      by_cases f1 : y = b
      · subst f1; rw [h3]; unfold tE; simp [beqF n1, beqF n2, beqF n3, n1, n2, n3]
      · by_cases f2 : y = c
        · subst f2; rw [k3]; simp [n1, n3, Ne.symm n2]
        · have : tE x b c x y = false := by unfold tE; simp [beqF f1, beqF f2, beqF n1, beqF n3, f1, f2, n1, n3]
          rw [this]; simp [n1, n3, f1]
    · by_cases e2 : x = b
      · subst e2
        by_cases f1 : y = c
        · subst f1; rw [h4]; unfold tE; simp [beqF n2, beqF n3, beqF (Ne.symm n1), beqF (Ne.symm n3), beqF (Ne.symm n2), n2, n3, Ne.symm n1, Ne.symm n3, Ne.symm n2]
        · by_cases f2 : y = a
          · subst f2; rw [k1]; simp [Ne.symm n1, n2, f1]
          · have : tE a x c x y = false := by unfold tE; simp [beqF f1, beqF f2, beqF n2, beqF (Ne.symm n1), f1, f2, n2, Ne.symm n1]
            rw [this]; simp [e1, n2, f1]
      · by_cases e3 : x = c
        · subst e3
          by_cases f1 : y = a
          · subst f1; rw [h5]; unfold tE; simp [beqF n1, beqF (Ne.symm n2), beqF (Ne.symm n3), n1, Ne.symm n2, Ne.symm n3]
          · by_cases f2 : y = b
            · subst f2; rw [k2]; simp [e1, e2, f1]
            · have : tE a b x x y = false := by unfold tE; simp [beqF f1, beqF f2, beqF (Ne.symm n2), beqF (Ne.symm n3), f1, f2, Ne.symm n2, Ne.symm n3]
              rw [this]; simp [e1, e2, f1]
        · have : tE a b c x y = false := by unfold tE; simp [beqF e1, beqF e2, beqF e3, e1, e2, e3]
          rw [this]; simp [e1, e2, e3]
  have h6 : (dfK xs (rv3 xs a b c) n n : Int) = 3 := by
    rw [df_sum, sumN_congr (fun x hx => sumN_congr fun y _ => e x hx y)]
    rw [sumN_congr (fun x _ => by rw [sumN_add, sumN_add]), sumN_add, sumN_add]
    have g : ∀ p q : Nat, p < n → q < n → sumN (fun x => sumN (fun y => if x = p then (if y = q then (1 : Int) else 0) else 0) n) n = 1 := fun p q hp hq => by
      rw [sumN_one hp (fun k _ hk => sumN_zero' fun y _ => by rw [if_neg hk]), sumN_one hq (fun k _ hk => by rw [if_pos rfl, if_neg hk]), if_pos rfl, if_pos rfl]
    rw [g a b ha hb, g b c hb hc, g c a hc ha]
    rfl
  omega
theorem df_self (xs : List Int) (n : Nat) : dfK xs xs n n = 0 := by
  have : (dfK xs xs n n : Int) = 0 := by
    rw [df_sum]
    exact sumN_zero' fun a _ => sumN_zero' fun b _ => by cases bt xs a b <;> rfl
  omega
theorem sumN_mono {f g : Nat → Int} : ∀ {n : Nat}, (∀ k, k < n → f k ≤ g k) → sumN f n ≤ sumN g n
  | 0, _ => Int.le_refl _
  | n + 1, h => by
    rw [sumN, sumN]
    have := sumN_mono (n := n) fun k hk => h k (by omega)
    have := h n (by omega)
    omega
theorem df_tri (xs ys zs : List Int) (n : Nat) : dfK xs zs n n ≤ dfK xs ys n n + dfK ys zs n n := by
  have : (dfK xs zs n n : Int) ≤ dfK xs ys n n + dfK ys zs n n := by
    rw [df_sum, df_sum, df_sum, ← sumN_add]
    refine sumN_mono fun a _ => ?_
    rw [← sumN_add]
    refine sumN_mono fun b _ => ?_
    cases bt xs a b <;> cases bt ys a b <;> cases bt zs a b <;> decide
  omega
theorem df_walk : ∀ {k : Nat} {xs : List Int}, tourP n xs → tWk n k xs ys → dfK xs ys n n ≤ 3 * k
  | 0, xs, _, h => by cases h; rw [df_self]; omega
  | k + 1, xs, hp, ⟨w, h1, h2⟩ => by
    have h3 := df_walk (h1.tour hp) h2
    obtain ⟨a, b, c, ht, rfl⟩ := h1
    have h4 := df_three hp ht
    have h5 := df_tri xs (rv3 xs a b c) ys n
    omega
theorem wk_scores : ∀ {k : Nat} {xs : List Int}, tourP n xs → tWk n k xs ys → scL ys n = scL xs n
  | 0, _, _, h => by cases h; rfl
  | _ + 1, _, hp, ⟨w, h1, h2⟩ => by
    have h3 := wk_scores (h1.tour hp) h2
    obtain ⟨a, b, c, ht, rfl⟩ := h1
    rw [h3, rv3_scores hp ht]
theorem tRe_scores (hp : tourP n xs) (h : tRe n xs ys) : scL ys n = scL xs n := by
  obtain ⟨k, hk⟩ := h
  exact wk_scores hp hk
/-- reversed, it is a triangle no more in this order -/
theorem rv3_not (hp : tourP n xs) {a b c : Nat} (h : tgP xs n a b c) : triP (rv3 xs a b c) a b c = false := by
  rcases q : triP (rv3 xs a b c) a b c with _ | _
  · rfl
  · exfalso
    obtain ⟨n1, n2, n3⟩ := tg_ne hp h
    have hq := rv3_tour hp h.1 h.2.1 h.2.2.1 n1 n2 n3
    have h1 := ((tg_iff hq h.1 h.2.1 h.2.2.1).1 q).2.2.2.2.2.1
    rw [rv3_bt hp h.1 h.2.1 h.2.2.1 n1 n2 n3 h.1, h.2.2.2.2.2.1, (tE_at n1 n2 n3).1] at h1
    cases h1
/-! the order of the rows -/
def befB : List Int → List Int → Bool
  | [], _ => false
  | _ :: _, [] => false
  | x :: r, y :: q => if x = y then befB r q else decide (x < y)
theorem bef3 (a b c a' b' c' : Nat) (h : a < a' ∨ a = a' ∧ (b < b' ∨ b = b' ∧ c < c')) : befB [(a : Int), (b : Int), (c : Int)] [(a' : Int), (b' : Int), (c' : Int)] = true := by
  unfold befB
  split
  · next e =>
    have e' : a = a' := by omega
    unfold befB
    split
    · next e2 =>
      have e2' : b = b' := by omega
      unfold befB
      rw [if_neg (by omega)]
      rw [decide_eq_true_eq]; omega
    · rw [decide_eq_true_eq]; omega
  · rw [decide_eq_true_eq]; omega
theorem triC_lex (xs : List Int) (a b : Nat) : ∀ k, (triC xs a b k).Pairwise (fun r q => befB r q = true) ∧ ∀ r ∈ triC xs a b k, ∃ c : Nat, c < k ∧ r = [(a : Int), (b : Int), (c : Int)] := by
  intro k
  induction k with
  | zero => exact ⟨by simp [triC], fun r h => by simp [triC] at h⟩
  | succ k ih =>
    rw [triC_succ]
    split
    · refine ⟨?_, ?_⟩
      · rw [List.pairwise_append]
        refine ⟨ih.1, by simp, fun r hr q hq => ?_⟩
        rw [List.mem_singleton] at hq
        obtain ⟨c, hc, rfl⟩ := ih.2 r hr
        rw [hq]
        exact bef3 _ _ _ _ _ _ (.inr ⟨rfl, .inr ⟨rfl, hc⟩⟩)
      · intro r hr
        rcases List.mem_append.1 hr with h | h
        · obtain ⟨c, hc, e⟩ := ih.2 r h
          exact ⟨c, by omega, e⟩
        · rw [List.mem_singleton] at h
          exact ⟨k, by omega, h⟩
    · rw [List.append_nil]
      exact ⟨ih.1, fun r hr => by obtain ⟨c, hc, e⟩ := ih.2 r hr; exact ⟨c, by omega, e⟩⟩
theorem triB_lex (xs : List Int) (n a : Nat) : ∀ k, (triB xs n a k).Pairwise (fun r q => befB r q = true) ∧ ∀ r ∈ triB xs n a k, ∃ b c : Nat, b < k ∧ r = [(a : Int), (b : Int), (c : Int)] := by
  intro k
  induction k with
  | zero => exact ⟨by simp [triB], fun r h => by simp [triB] at h⟩
  | succ k ih =>
    rw [triB_succ]
    have hC := triC_lex xs a k n
    refine ⟨?_, ?_⟩
    · rw [List.pairwise_append]
      refine ⟨ih.1, hC.1, fun r hr q hq => ?_⟩
      obtain ⟨b, c, hb, rfl⟩ := ih.2 r hr
      obtain ⟨c', hc', rfl⟩ := hC.2 q hq
      exact bef3 _ _ _ _ _ _ (.inr ⟨rfl, .inl hb⟩)
    · intro r hr
      rcases List.mem_append.1 hr with h | h
      · obtain ⟨b, c, hb, e⟩ := ih.2 r h
        exact ⟨b, c, by omega, e⟩
      · obtain ⟨c, _, e⟩ := hC.2 r h
        exact ⟨k, c, by omega, e⟩
theorem triA_lex (xs : List Int) (n : Nat) : ∀ k, (triA xs n k).Pairwise (fun r q => befB r q = true) ∧ ∀ r ∈ triA xs n k, ∃ a b c : Nat, a < k ∧ r = [(a : Int), (b : Int), (c : Int)] := by
  intro k
  induction k with
  | zero => exact ⟨by simp [triA], fun r h => by simp [triA] at h⟩
  | succ k ih =>
    rw [triA_succ]
    have hC := triB_lex xs n k n
    refine ⟨?_, ?_⟩
    · rw [List.pairwise_append]
      refine ⟨ih.1, hC.1, fun r hr q hq => ?_⟩
      obtain ⟨a, b, c, ha, rfl⟩ := ih.2 r hr
      obtain ⟨b', c', _, rfl⟩ := hC.2 q hq
      exact bef3 _ _ _ _ _ _ (.inl ha)
    · intro r hr
      rcases List.mem_append.1 hr with h | h
      · obtain ⟨a, b, c, ha, e⟩ := ih.2 r h
        exact ⟨a, b, c, by omega, e⟩
      · obtain ⟨b, c, _, e⟩ := hC.2 r h
        exact ⟨k, b, c, by omega, e⟩
theorem tri_before (xs : List Int) (n : Nat) {i : Nat} (h : i + 1 < (triA xs n n).length) : befB ((triA xs n n).getD i []) ((triA xs n n).getD (i + 1) []) = true := by
  have h1 := List.pairwise_iff_getElem.1 (triA_lex xs n n).1 i (i + 1) (by omega) h (by omega)
  rw [List.getD_eq_getElem?_getD, List.getD_eq_getElem?_getD, List.getElem?_eq_getElem h, List.getElem?_eq_getElem (show i < _ by omega)]
  exact h1
end
end Go.Proofs.YthoodjjjklbggaaGreatDoor

namespace Go.Proofs.YthoodjjjklbggaaGreatDoor
open Go.RowKit Go.Sort

section
variable {P : Program} {ops : Array Oper} {md : Region.Mode} {S : World → Prop} {R : Exit → Act → World → Prop}

/-- whatever order is picked among the first n, with f of them left to do; S holds behind each -/
def pickH (P : Program) (md : Region.Mode) (ops : Array Oper) (R : Exit → Act → World → Prop) (S : World → Prop) (n : Nat) (L : Array Bool → Act → World → Prop) : Nat → Array Bool → Act → World → Prop
  | 0, b, a, w => L b a w
  | f + 1, b, a, w => Region.ready md ops b ≠ [] ∧ ∀ i ∈ Region.ready md ops b, i < n ∧ wpOp P ops R i (fun a' w' => S w' ∧ pickH P md ops R S n L f (b.setIfInBounds i true) a' w') a w

theorem pickH_any {n g : Nat} {L : Array Bool → Act → World → Prop} (hL : ∀ b a w, L b a w → wpAny P md ops R g b a w) (f : Nat) :
    ∀ (b : Array Bool) (a : Act) (w : World), pickH P md ops R S n L f b a w → wpAny P md ops R (f + g) b a w := by
  induction f with
  | zero => intro b a w h; rw [Nat.zero_add]; exact hL _ _ _ h
  | succ f ih =>
    intro b a w h
    rw [show f + 1 + g = (f + g) + 1 by omega]
    exact ⟨fun h0 => absurd h0 h.1, fun i hi => wpOp_mono (fun a' w' h' => ih _ a' w' h'.2) (h.2 i hi).2⟩

theorem pickH_first {n i : Nat} {oi : Oper} {v : Value} {L : Array Bool → Act → World → Prop} (hi : ops[i]? = some oi) (hsel : ∀ (j : Nat) (o : Oper) cs b, ops[j]? = some o → o.op ≠ .select cs b)
    (hs : Region.sinkB md ops n = true) (hc : Region.chainB md ops n = true) (hn : n < ops.size) (hin : i < n) (hdone : ∀ b a w, L b a w → ∀ j ∈ Region.ready md ops b, n ≤ j)
    (hQ : ∀ c a w, R (.panic c) (a.put oi.dst v) w → R (.panic c) a w) (f : Nat) :
    ∀ (b : Array Bool) (a : Act) (w : World), HeadInv md ops n b →
      (∀ j oj, ops[j]? = some oj → j ≠ i → b.getD j true = false → (∀ e ∈ oj.after, Region.binds md e = true → e.on ≠ i) → oi.apart ops oj = true) →
      i ∈ Region.ready md ops b → YieldsIf P ops S oi v a → S w →
      pickH P md ops R S n L f (b.setIfInBounds i true) (a.put oi.dst v) w → pickH P md ops R S n L (f + 1) b a w := by
  induction f with
  | zero =>
    intro b a w inv _ hr hy hS H
    have hun := (mem_ready.1 hr).1
    refine ⟨fun h => (by rw [h] at hr; cases hr), fun j hj => ?_⟩
    have hjn : j < n := Nat.lt_of_not_le fun h => tail_waits hs hc hn inv _ i rfl hin hun j h hj
    by_cases hji : j = i
    · subst hji; exact ⟨hjn, hy.wpOp hi hS ⟨hS, H⟩⟩
    · have := hdone _ _ _ H j (ready_mono hj hji); omega
  | succ f ih =>
    intro b a w inv hfree hr hy hS H
    have hun := (mem_ready.1 hr).1
    refine ⟨fun h => (by rw [h] at hr; cases hr), fun j hj => ?_⟩
    have hjn : j < n := Nat.lt_of_not_le fun h => tail_waits hs hc hn inv _ i rfl hin hun j h hj
    refine ⟨hjn, ?_⟩
    by_cases hji : j = i
    · subst hji; exact hy.wpOp hi hS ⟨hS, H⟩
    · obtain ⟨hjun, oj, hoj, hall⟩ := mem_ready.1 hj
      have hnot : ∀ e ∈ oj.after, Region.binds md e = true → e.on ≠ i := fun e he hb heq => by
        have h1 := hall e he hb
        rw [heq, getD_both hun] at h1
        cases h1
      have h2 := wpOp_putIf hoj (hfree j oj hoj hji hjun hnot) (fun cs b => hsel i oi cs b hi) (fun cs b => hsel j oj cs b hoj) hQ hy (H.2 j (ready_mono hj hji)).2
      refine wpOp_mono (fun a' w' h3 => ⟨h3.2.1, ih (b.setIfInBounds j true) a' w' (inv.set hj hjn) (fun k ok hk hki hun hno => hfree k ok hk hki ?_ hno) (ready_mono hr (Ne.symm hji)) h3.1 h3.2.1 ?_⟩) h2
      · by_cases hjk : j = k
        · subst hjk; exact hjun
        · rw [getD_set_ne true hjk] at hun; exact hun
      · rw [Array.setIfInBounds_comm _ _ hji]
        exact h3.2.2

/-- the walk's goal -/
def GoT (P : Program) (md : Region.Mode) (ops : Array Oper) (R : Exit → Act → World → Prop) (S : World → Prop) (n : Nat) (L : Array Bool → Act → World → Prop) (f : Nat) (b : Array Bool) (a : Act) (w : World) : Prop :=
  HeadInv md ops n b → pickH P md ops R S n L f b a w
/-- what the tail's head must look like -/
def tailL (P : Program) (md : Region.Mode) (ops : Array Oper) (R : Exit → Act → World → Prop) (n g : Nat) (l : List Oper) (b : Array Bool) (a : Act) (w : World) : Prop :=
  Region.seqB md ops g n b = true ∧ wpList P ops R l a w
/-- what is checked of a region once -/
def tailOk (md : Region.Mode) (ops : Array Oper) (n : Nat) : Bool := Region.noSelect ops && Region.sinkB md ops n && Region.chainB md ops n && decide (n < ops.size)

theorem drop_at {l : List Oper} {i : Nat} {o : Oper} {rest : List Oper} (h : l.drop i = o :: rest) : l.toArray[i]? = some o := by
  have := congrArg (fun l => l[0]?) h
  simpa [List.getElem?_drop] using this

/-- the operation is read off 'drop i', so that it stands written out -/
theorem GoT.take {l0 rest : List Oper} {n g f i : Nat} {oi : Oper} {v : Value} {l : List Oper} {b : Array Bool} {a : Act} {w : World} (hd : l0.drop i = oi :: rest) (hok : tailOk md l0.toArray n = true) (hin : decide (i < n) = true)
    (hf : Region.free md l0.toArray b i = true) (hr : (Region.ready md l0.toArray b).contains i = true) (hQ : ∀ c a w, R (.panic c) (a.put oi.dst v) w → R (.panic c) a w) (hy : YieldsIf P l0.toArray S oi v a) (hS : S w)
    (h : GoT P md l0.toArray R S n (tailL P md l0.toArray R n g l) f (b.setIfInBounds i true) (a.put oi.dst v) w) : GoT P md l0.toArray R S n (tailL P md l0.toArray R n g l) (f + 1) b a w := by
  intro inv
  have hi := drop_at hd
  simp only [tailOk, Bool.and_eq_true, decide_eq_true_eq] at hok
  have hr' : i ∈ Region.ready md l0.toArray b := by simpa using hr
  exact pickH_first hi (Region.noSelect_spec hok.1.1.1) hok.1.1.2 hok.1.2 hok.2 (of_decide_eq_true hin) (fun b a w hL => seqB_ready hL.1) hQ f b a w inv (Region.free_spec hi hf) hr' hy hS (h (inv.set hr' (of_decide_eq_true hin)))

/-- the only one that may come up -/
theorem GoT.one {l0 rest : List Oper} {n f i : Nat} {o : Oper} {L : Array Bool → Act → World → Prop} {b : Array Bool} {a : Act} {w : World} (hd : l0.drop i = o :: rest) (hin : decide (i < n) = true) (hr : Region.ready md l0.toArray b = [i])
    (h : ∀ K' : Act → World → Prop, Shut (∀ a w, S w → (S w → GoT P md l0.toArray R S n L f (b.setIfInBounds i true) a w) → K' a w) → if Region.wanted o (yielded l0.toArray a.tmps) = true then Oper.wp P o a w K' R else K' (a.put o.dst undef) w) :
    GoT P md l0.toArray R S n L (f + 1) b a w := by
  intro inv
  have hi := drop_at hd
  have hri : i ∈ Region.ready md l0.toArray b := by rw [hr]; simp
  refine ⟨by rw [hr]; simp, fun j hj => ?_⟩
  have hji : j = i := by rw [hr] at hj; simpa using hj
  subst hji
  exact ⟨of_decide_eq_true hin, wpOp_step hi (fun K' hK => h K' (fun a w hS hW => hK a w ⟨hS, hW hS (inv.set hri (of_decide_eq_true hin))⟩))⟩

theorem GoT.stop {n g : Nat} {l : List Oper} {b : Array Bool} {a : Act} {w : World} (hs : Region.seqB md ops g n b = true) (h : wpList P ops R l a w) : GoT P md ops R S n (tailL P md ops R n g l) 0 b a w := fun _ => ⟨hs, h⟩

theorem wp_region_heldT {id : Nat} {Q : Exit → Act → World → Prop} {a : Act} {w : World} {l : List Oper} (n : Nat) (S : World → Prop) (hm : P.follows .mixedOrders = true) (hok : tailOk .any l.toArray n = true) (hS : S w.drew)
    (h : S w.drew → GoT P .any l.toArray Q S n (tailL P .any l.toArray Q n (l.length - n) (l.drop n)) n (Array.replicate l.toArray.size false) a w.drew) : (Code.region id l.toArray true).wp P Q a w := by
  have hn : n < l.length := by simp only [tailOk, Bool.and_eq_true, decide_eq_true_eq] at hok; simpa using hok.2
  have hdl : (l.drop n).length = l.length - n := by simp
  refine wp_region_any hm ?_
  have H := h hS ⟨by simp, fun j oj _ hl => (by rw [getD_replicate_false] at hl; cases hl), fun t _ ht => getD_in (by simpa using ht) (getD_replicate_false _ _)⟩
  have := pickH_any (R := Q) (g := l.length - n) (fun b a' w' hL => by
    have := wpAny_of_seq (md := .any) (Q' := Q) (l.drop n) n b a' w' (fun j => by simp [List.getElem?_drop]) (by rw [hdl]; exact hL.1) hL.2
    rwa [hdl] at this) _ _ _ _ H
  rw [show n + (l.length - n) = l.toArray.size by simp; omega] at this
  exact this
end
end Go.Proofs.YthoodjjjklbggaaGreatDoor

