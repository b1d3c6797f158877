/- Texts put together: Rotal, Cho, Pow, Defeat, ScsOf, ScN, Max, RgR, Dfs. -/
import Derived.Test.YthoodjjjklbggaaDoorMRotational08
import Derived.Test.YthoodjjjklbggaaDoorMRotational03
import Derived.Test.YthoodjjjklbggaaDoorMRotational01
import Derived.Test.YthoodjjjklbggaaDoorMRotational04
import Derived.Maps.AppendAt
import Derived.Deep.RegionHeld3
namespace Go.Proofs.YthoodjjjklbggaaDoor
open Go.RowKit Go.Sort
set_option maxRecDepth 100000

def turnL (n k : Nat) : List Int := (List.range k).map fun (a : Nat) => ((a : Int) + 1) % n
theorem turnL_succ (n k : Nat) : turnL n (k + 1) = turnL n k ++ [((k : Int) + 1) % n] := by unfold turnL; rw [List.range_succ, List.map_append]; rfl
theorem turnL_len (n k : Nat) : (turnL n k).length = k := by simp [turnL]
theorem turnL_perm {n : Nat} (h1 : 1 ≤ n) (h8 : n ≤ 8) : PermP n (turnL n n) := by
  rcases (by omega : n = 1 ∨ n = 2 ∨ n = 3 ∨ n = 4 ∨ n = 5 ∨ n = 6 ∨ n = 7 ∨ n = 8) with rfl | rfl | rfl | rfl | rfl | rfl | rfl | rfl
  all_goals exact ⟨by decide, by decide, by decide⟩
noncomputable def rotlB (s : Int) (xs : List Int) : Bool := tourB s xs && decide (xs = rnL xs (turnL xs.length xs.length))
set_option maxHeartbeats 2000000 in
theorem implRotal (s : Int) (sl : Value) (xs : List Int) (w : World) (h : Rd w sl xs) :
    Calls Tryd.prog 6 #[.agg #[.int .i64 s, sl]] w fun e w' => e = .returned (.bool (rotlB s xs)) ∧ Below w.heap.size w w' := by
  have HR := Lib.hid h
  obtain ⟨A, c, rfl, -, hcm, -⟩ := h
  unfold maxLen at hcm
  rcases q0 : tourB s xs with _ | _
  case false =>
    go_enter Tryd.func6, Tryd.ntmps6
    go_wp2_with fail
    have b0 := below_alloc1 w (.cells #[.int .i64 s, .slice A xs.length c] 25)
    have x0 := TBox.new w s (.slice A xs.length c) 25
    generalize w.alloc (.cells #[.int .i64 s, .slice A xs.length c] 25) = w0 at *
    have HX0 := Lib.hid x0
    have HB0 := Lib.hid b0
    clear x0 b0
    have y0_0 := HX0.out.1
    have y1_0 := HX0.out.2
    go_wp2_with fail
    refine (implTourOk s _ xs _ (HR.out.below HB0.out)).mono ?_
    rintro e w1 ⟨rfl, hb⟩
    have HX1 := Lib.hid (HX0.out.below hb)
    have HB1 := Lib.hid (Below.then HB0.out hb)
    clear hb HX0 HB0 y0_0 y1_0
    have y0_1 := HX1.out.1
    have y1_1 := HX1.out.2
    rw [q0]
    go_wp2
    go_ret
    exact ⟨ret_bool (by simp [rotlB, *]), HB1.out⟩
  have hp := tourB_true.1 q0
  have hs := hp.1
  have hl := hp.2.1
  go_enter Tryd.func6, Tryd.ntmps6
  go_wp2_with fail
  have b0 := below_alloc1 w (.cells #[.int .i64 s, .slice A xs.length c] 25)
  have x0 := TBox.new w s (.slice A xs.length c) 25
  generalize w.alloc (.cells #[.int .i64 s, .slice A xs.length c] 25) = w0 at *
  have HX0 := Lib.hid x0
  have HB0 := Lib.hid b0
  clear x0 b0
  have y0_0 := HX0.out.1
  have y1_0 := HX0.out.2
  go_wp2_with fail
  refine (implTourOk s _ xs _ (HR.out.below HB0.out)).mono ?_
  rintro e w1 ⟨rfl, hb⟩
  have HX1 := Lib.hid (HX0.out.below hb)
  have HB1 := Lib.hid (Below.then HB0.out hb)
  clear hb HX0 HB0 y0_0 y1_0
  have y0_1 := HX1.out.1
  have y1_1 := HX1.out.2
  rw [q0]
  obtain ⟨n, rfl⟩ : ∃ n : Nat, s = n := ⟨s.toNat, by omega⟩
  have hn1 : 1 ≤ n := by omega
  have hn8 : n ≤ 8 := by omega
  have hln : xs.length = n := by omega
  have HF : Hid (rotlB (n : Int) xs = decide (xs = rnL xs (turnL n n))) := by unfold Hid; rw [rotlB, q0, hln]; rfl
  have HPM := Lib.hid (turnL_perm hn1 hn8)
  have HP := Lib.hid hp
  have HLN := Lib.hid hln
  clear hp hl hln q0
  go_wp2
  go_loopw [3, 10] (fun v i wr => ∃ (a : Nat), a ≤ n ∧ i = .int .i64 a ∧ Own wr w1.heap.size v (turnL n a) ∧ Below w1.heap.size w1 wr) (fun _ i _ => n - (intOf i).toNat)
  case atStart => exact ⟨0, by omega, rfl, by simpa [turnL] using Own.nil_ _ _, Below.refl _ _⟩
  case round =>
    obtain ⟨a, ha, rfl, hown, hb⟩ := hrel
    have HO := Lib.hid hown
    have HB := Lib.hid hb
    have HX := Lib.hid (HX1.out.below hb)
    clear hown hb y0_1 y1_1
    have y0 := HX.out.1
    have y1 := HX.out.2
    by_cases hlt : a < n
    · have hr : Int.tmod ((a : Int) + 1) n = ((a : Int) + 1) % n := Int.tmod_eq_emod_of_nonneg (by omega)
      have HMS := Lib.hid (turnL_succ n a)
      have hlen := turnL_len n a
      have ho := HO.out
      have hsz := HB.out.size
      generalize ((a : Int) + 1) % n = r at *
      generalize turnL n a = X at *
      go_wp2_with (at_builtin; refine wp_append1 _ rfl (.tmp 13) (.tmp 19) rfl w1.heap.size _ _ _ rfl ho (by simp [Act.eval]) (by omega) (by exact hsz) ?_; intro v' w7 hown1 hg1; have HO7 := Lib.hid hown1; have HB7 := Lib.hid (below_append HB.out hg1 ho (Nat.le_refl _) hsz); clear hown1 hg1)
      go_roundw
      case rel => exact ⟨a + 1, by omega, by go_num, by rw [HMS.out]; exact HO7.out, HB7.out⟩
      case measure => simp [intOf]; omega
    · obtain rfl : n = a := by omega
      obtain ⟨NA, nc, rfl, -, -, -⟩ := HO.out.form
      rw [turnL_len] at HO
      rw [turnL_len]
      have BD : Hid (Below w.heap.size w wr.drew) := (let q := Below.then HB1.out HB.out; ⟨q.os, q.tape, q.output, q.size, q.block⟩)
      have XD := Lib.hid (show TBox wr.drew w.heap.size n (.slice A xs.length c) from HX.out)
      have OD := Lib.hid (show Own wr.drew w1.heap.size (.slice NA n nc) (turnL n n) from HO.out)
      go_wp2_with fail
      go_region_held3 (fun W => W.cell? ⟨w.heap.size, 0, none⟩ = some (.int .i64 n) ∧ W.cell? ⟨w.heap.size, 1, none⟩ = some (.slice A xs.length c))
        (first | exact ⟨y0, y1⟩ | exact ⟨y0_2, y1_2⟩ | exact ⟨y0_3, y1_3⟩)
        (first
          | (go_at_call 32; refine (renamed_any n (.slice A xs.length c) xs (turnL n n) (.slice NA n nc) _ (HR.out.below BD.out) HP.out OD.out.rd (by rw [HLN.out]; exact HPM.out)).mono ?_; rintro e w2 ⟨v2, rfl, ho2, hF2, hb2⟩; obtain ⟨Y, cy, rfl, hym, -, -⟩ := ho2.form; have HX2 := Lib.hid (XD.out.below hb2); have y0_2 := HX2.out.1; have y1_2 := HX2.out.2; have HB2 := Lib.hid (Below.then BD.out hb2); have HO2 := Lib.hid ho2; clear ho2 hF2 hb2)
          | (go_at_call 31; refine (same_any n (.slice A xs.length c) _ xs (rnL xs (turnL n n)) _ (HR.out.below HB2.out) HO2.out.rd).mono ?_; rintro e w3 ⟨rfl, hb3⟩; have HB3 := Lib.hid (Below.then HB2.out hb3); have HX3 := Lib.hid (HX2.out.below hb3); have y0_3 := HX3.out.1; have y1_3 := HX3.out.2; clear hb3))
      all_goals
        go_wp2
        go_ret
        exact ⟨ret_bool HF.out.symm, HB3.out⟩
end Go.Proofs.YthoodjjjklbggaaDoor

namespace Go.Proofs.YthoodjjjklbggaaDoor
open Go.RowKit Go.Sort
set_option maxRecDepth 100000
variable {n : Nat} {sl : Value} {xs : List Int} {w : World}
def chK (n : Nat) : Nat → Nat
  | 0 => 1
  | i + 1 => chK n i * (n - i) / (i + 1)
def chN (n k : Nat) : Nat := if n < k then 0 else chK n k
theorem chK_le : ∀ n, n < 9 → ∀ i, i < 5 → chK n i ≤ 100 := by decide
theorem chN_le {n k : Nat} (hn : n ≤ 8) (hk : k ≤ 3) : chN n k ≤ 100 := by
  unfold chN
  split
  · omega
  · exact chK_le n (by omega) k (by omega)
set_option maxHeartbeats 1000000 in
theorem choose_any (n k : Nat) (w : World) (hn : n ≤ 8) (hk : k ≤ 3) : Calls Tryd.prog 36 #[.int .i64 n, .int .i64 k] w fun e w' => e = .returned (.int .i64 (chN n k : Nat)) ∧ w = w' := by
  have HV : Hid (chN n k = if n < k then 0 else chK n k) := rfl
  go_enter Tryd.func36, Tryd.ntmps36
  by_cases h : n < k
  · have hd : decide ((n : Int) < (k : Int)) = true := decide_eq_true (by omega)
    go_wp2
    go_ret
    exact ⟨ret_int (by rw [HV.out, if_pos h]; rfl), rfl⟩
  · have hd : decide ((n : Int) < (k : Int)) = false := decide_eq_false (by omega)
    go_wp2
    go_loop [5, 11] (fun t5 t11 => ∃ i : Nat, i ≤ k ∧ t11 = .int .i64 i ∧ t5 = .int .i64 (chK n i : Nat)) (fun _ t11 => k - (intOf t11).toNat)
    case atStart => exact ⟨0, by omega, rfl, rfl⟩
    case round =>
      obtain ⟨i, hi, rfl, rfl⟩ := hrel
      by_cases hlt : i < k
      · have HS : Hid (chK n (i + 1) = chK n i * (n - i) / (i + 1)) := rfl
        have hA := chK_le n (by omega) i (by omega)
        have hQ := chK_le n (by omega) (i + 1) (by omega)
        have HGO : Hid (wrap64 ((wrap64 ((chK n i : Int) * ((n : Int) - (i : Int)))).tdiv ((i : Int) + 1)) = ((chK n (i + 1) : Nat) : Int)) := Lib.hid (by
          rw [show (n : Int) - (i : Int) = ((n - i : Nat) : Int) by omega]
          have hP : chK n i * (n - i) ≤ 100 * 8 := Nat.mul_le_mul hA (by omega)
          have e2 : (chK n i : Int) * ((n - i : Nat) : Int) = ((chK n i * (n - i) : Nat) : Int) := by push_cast; rfl
          rw [e2, IntWalk.wrap64_in ((chK n i * (n - i) : Nat) : Int) (by omega)]
          have e4 : (((chK n i * (n - i) : Nat) : Int)).tdiv ((i : Int) + 1) = ((chK n (i + 1) : Nat) : Int) := by
            rw [HS.out, Int.tdiv_eq_ediv_of_nonneg (by omega)]
            push_cast
            rfl
          rw [e4]
          exact IntWalk.wrap64_in _ (by omega))
        clear hA hQ
        go_wp2
        go_round
        case rel => exact ⟨i + 1, by omega, by go_num, by rw [HGO.out]⟩
        case measure => simp [intOf]; omega
      · obtain rfl : i = k := by omega
        go_wp2
        go_ret
        exact ⟨ret_int (by rw [HV.out, if_neg h]), rfl⟩
/-- three from n players, less two from each score -/
def ctK (xs : List Int) (n k : Nat) : Int := (chN n 3 : Int) - (((List.range k).map fun a => chN (popN 8 (winsN xs a)) 2).sum : Nat)
theorem ctS_succ (xs : List Int) (k : Nat) : ((List.range (k + 1)).map fun a => chN (popN 8 (winsN xs a)) 2).sum = ((List.range k).map fun a => chN (popN 8 (winsN xs a)) 2).sum + chN (popN 8 (winsN xs k)) 2 := by
  rw [List.range_succ, List.map_append, List.sum_append]; simp
theorem ctS_le (xs : List Int) (k : Nat) : ((List.range k).map fun a => chN (popN 8 (winsN xs a)) 2).sum ≤ k * 100 := by
  induction k with
  | zero => simp
  | succ k ih =>
    rw [ctS_succ]
    have := chN_le (popN_le 8 (winsN xs k)) (by decide : 2 ≤ 3)
    omega
set_option maxHeartbeats 2000000 in
theorem cTriCount (hp : tourP n xs) (h : Rd w sl xs) : Calls Tryd.prog 9 #[.agg #[.int .i64 n, sl]] w fun e w' => e = .returned (.int .i64 (ctK xs n n)) ∧ Below w.heap.size w w' := by
  have HR := Lib.hid h
  obtain ⟨A, cA, rfl, -, -, -⟩ := h
  rw [tour_len hp] at *
  have HP := Lib.hid hp
  have HL := Lib.hid (tour_len hp)
  have h8 : n ≤ 8 := by have := hp.1; omega
  clear hp
  go_enter Tryd.func9, Tryd.ntmps9
  go_wp2_with fail
  have b0 := below_alloc1 w (.cells #[.int .i64 n, .slice A n cA] 25)
  have x0 := TBox.new w n (.slice A n cA) 25
  generalize w.alloc (.cells #[.int .i64 n, .slice A n cA] 25) = w0 at *
  have HX0 := Lib.hid x0
  have HB0 := Lib.hid b0
  clear x0 b0
  have y0_0 := HX0.out.1
  have y1_0 := HX0.out.2
  go_wp2_with fail
  refine (implTourOk n _ xs _ (HR.out.below HB0.out)).mono ?_
  rintro e w1 ⟨rfl, hb⟩
  rw [tourB_true.2 HP.out]
  have HB1 := Lib.hid (Below.then HB0.out hb)
  have HX1 := Lib.hid (HX0.out.below hb)
  clear hb y0_0 y1_0 HX0 HB0
  have y0_1 := HX1.out.1
  have y1_1 := HX1.out.2
  go_wp2_with fail
  refine (choose_any n 3 w1 h8 (by decide)).mono ?_
  rintro e w2 ⟨rfl, rfl⟩
  go_wp2
  go_loopw [3, 13] (fun t3 t13 wr => ∃ k : Nat, k ≤ n ∧ t13 = .int .i64 k ∧ t3 = .int .i64 (ctK xs n k) ∧ Hid (TBox wr w.heap.size n (.slice A n cA)) ∧ Hid (Below w.heap.size w wr)) (fun _ t13 _ => n - (intOf t13).toNat)
  case atStart => exact ⟨0, by omega, rfl, by simp [ctK], HX1, HB1⟩
  case round =>
    obtain ⟨wa, rfl⟩ : ∃ x, x = wr := ⟨_, rfl⟩
    obtain ⟨k, hk, rfl, rfl, HX, HB⟩ := hrel
    clear HX1 HB1 y0_1 y1_1
    by_cases hlt : k < n
    · as_aux_lemma =>
      have y0 := HX.out.1
      have y1 := HX.out.2
      go_wp2_with fail
      refine (score_any n _ xs k _ (HR.out.below HB.out) HP.out (by rw [HL.out]; exact hlt)).mono ?_
      rintro e w3 ⟨rfl, hb3⟩
      have HX3 := Lib.hid (HX.out.below hb3)
      have HB3 := Lib.hid (Below.then HB.out hb3)
      have hs8 := popN_le 8 (winsN xs k)
      have HS := Lib.hid (ctS_succ xs k)
      have hle := ctS_le xs k
      have hc3 := chN_le h8 (by decide : 3 ≤ 3)
      have hc2 := chN_le hs8 (by decide : 2 ≤ 3)
      have HCK : Hid (∀ j, ctK xs n j = (chN n 3 : Int) - (((List.range j).map fun a => chN (popN 8 (winsN xs a)) 2).sum : Nat)) := Lib.hid fun _ => rfl
      clear hb3 HX HB y0 y1
      generalize hs : popN 8 (winsN xs k) = s at *
      clear hs
      go_wp2_with fail
      refine (choose_any s 2 w3 hs8 (by decide)).mono ?_
      rintro e w4 ⟨rfl, rfl⟩
      have HNX : Hid (ctK xs n (k + 1) = ctK xs n k - (chN s 2 : Int)) := Lib.hid (by rw [HCK.out, HCK.out, HS.out]; push_cast; omega)
      have hb1 : -800 ≤ ctK xs n k ∧ ctK xs n k ≤ 100 := by rw [HCK.out]; omega
      generalize ctK xs n k = T at *
      generalize chN s 2 = C at *
      go_wp2
      go_roundw
      case rel => exact ⟨k + 1, by omega, by go_num, by rw [HNX.out], HX3, HB3⟩
      case measure => simp [intOf]; omega
    · as_aux_lemma =>
      obtain rfl : k = n := by omega
      go_wp2
      go_ret
      exact ⟨rfl, HB.out⟩
end Go.Proofs.YthoodjjjklbggaaDoor

namespace Go.Proofs.YthoodjjjklbggaaDoor
open Go.RowKit Go.Sort

/-- the sum over the first j whom a beats -/
def pwT (xs ys : List Int) (a j : Nat) : Int := (((memN (winsN xs a) 8).take j).map fun b => ys.getD b 0).sum
def pwAt (xs ys : List Int) (a : Nat) : Int := pwT xs ys a (memN (winsN xs a) 8).length
def pwStep (xs ys : List Int) : List Int := (List.range xs.length).map (pwAt xs ys)
def pwL (xs : List Int) : Nat → List Int
  | 0 => List.replicate xs.length 1
  | k + 1 => pwStep xs (pwL xs k)
def PB (B : Int) (ys : List Int) : Prop := ∀ b : Nat, 0 ≤ ys.getD b 0 ∧ ys.getD b 0 ≤ B
theorem pwT_zero (xs ys : List Int) (a : Nat) : pwT xs ys a 0 = 0 := by simp [pwT]
theorem pwT_succ {xs ys : List Int} {a j : Nat} (h : j < (memN (winsN xs a) 8).length) : pwT xs ys a (j + 1) = pwT xs ys a j + ys.getD ((memN (winsN xs a) 8).getD j 0) 0 := by
  unfold pwT
  rw [take_snocN h, List.map_append, List.sum_append, getD_nat h]
  simp
theorem pwT_bd {xs ys : List Int} {B : Int} (hB : PB B ys) (a j : Nat) (h : j ≤ (memN (winsN xs a) 8).length) : 0 ≤ pwT xs ys a j ∧ pwT xs ys a j ≤ B * j := by
  induction j with
  | zero => simp [pwT_zero]
  | succ j ih =>
    have ih := ih (by omega)
    have hb := hB ((memN (winsN xs a) 8).getD j 0)
    rw [pwT_succ (by omega)]
    have : B * ((j + 1 : Nat) : Int) = B * j + B := by rw [Int.natCast_add, Int.mul_add]; simp
    omega
theorem pwT_bd' {xs ys : List Int} {B : Int} (hB : PB B ys) (h0 : 0 ≤ B) (h1 : B ≤ 68719476736) (a j : Nat) (h : j ≤ (memN (winsN xs a) 8).length) : 0 ≤ pwT xs ys a j ∧ pwT xs ys a j ≤ 549755813888 := by
  have h2 := pwT_bd (xs := xs) hB a j h
  have hl := memN_len (winsN xs a) 8
  have : B * (j : Int) ≤ B * 8 := Int.mul_le_mul_of_nonneg_left (by omega) h0
  omega
theorem memL_cells' {w : World} {base S k q d : Nat} {A : Option Addr} (h : Own w base (.slice A q d) (memL S k)) (hq : (memN S k).length = q) (h0 : 0 < q) :
    ∃ g off, A = some ⟨g, off, none⟩ ∧ g < w.heap.size ∧ ∀ j, j < q → w.cell? ⟨g, off + j, none⟩ = some (.int .i64 ((memN S k).getD j 0 : Nat)) := by
  obtain ⟨A', c, e, -, -, hx⟩ := memL_cells h
  injection e with e1 _ _
  subst e1
  rw [hq] at hx
  obtain ⟨g, off, e, hg, hz⟩ := hx h0
  exact ⟨g, off, e, hg, hz⟩
theorem pwAt_bd {xs ys : List Int} {B : Int} (hB : PB B ys) (h0 : 0 ≤ B) (a : Nat) : 0 ≤ pwAt xs ys a ∧ pwAt xs ys a ≤ B * 8 := by
  have h := pwT_bd (xs := xs) hB a _ (Nat.le_refl _)
  have hl := memN_len (winsN xs a) 8
  have : B * ((memN (winsN xs a) 8).length : Int) ≤ B * 8 := Int.mul_le_mul_of_nonneg_left (by omega) h0
  unfold pwAt
  omega
theorem pwStep_len (xs ys : List Int) : (pwStep xs ys).length = xs.length := by simp [pwStep]
theorem pwL_len (xs : List Int) (k : Nat) : (pwL xs k).length = xs.length := by cases k <;> simp [pwL, pwStep_len]
theorem pwStep_at {xs ys : List Int} {a : Nat} (h : a < xs.length) : (pwStep xs ys).getD a 0 = pwAt xs ys a := by simp [pwStep, h]
theorem pwL_bd (xs : List Int) (k : Nat) : PB (8 ^ k : Int) (pwL xs k) := by
  induction k with
  | zero =>
    intro b
    by_cases h : b < xs.length
    · simp [pwL, h]
    · simp [pwL, Nat.le_of_not_lt h]
  | succ k ih =>
    intro b
    have h0 : (0 : Int) ≤ 8 ^ k := Int.pow_nonneg (by decide)
    by_cases h : b < xs.length
    · rw [pwL, pwStep_at h, Int.pow_succ]
      exact pwAt_bd ih h0 b
    · have : (pwL xs (k + 1)).getD b 0 = 0 := by
        rw [List.getD_eq_getElem?_getD, List.getElem?_eq_none (by rw [pwL_len]; omega)]; rfl
      rw [this, Int.pow_succ]
      omega
theorem pw8 {k : Nat} (h : k ≤ 12) : (8 : Int) ^ k ≤ 68719476736 := by
  have : (8 : Nat) ^ k ≤ 8 ^ 12 := Nat.pow_le_pow_right (by decide) h
  have e : ((8 ^ k : Nat) : Int) = (8 : Int) ^ k := by simp
  rw [← e]
  have e2 : (8 : Nat) ^ 12 = 68719476736 := by decide
  omega
noncomputable def pwR (s : Int) (xs : List Int) (k : Int) : List Int := if (tourB s xs && inB k 0 12) = true then pwL xs k.toNat else []
theorem pwR_len (s : Int) (xs : List Int) (k : Int) : (pwR s xs k).length ≤ 8 := by
  unfold pwR
  split
  · rename_i h
    rw [Bool.and_eq_true] at h
    have := (tourB_true.1 h.1).1
    have := (tourB_true.1 h.1).2.1
    rw [pwL_len]; omega
  · simp
theorem getD_rep (n i : Nat) : (List.replicate n (0 : Int)).getD i 0 = 0 := by
  by_cases h : i < n
  · simp [h]
  · simp [Nat.le_of_not_lt h]
/-- the row that grows: done below a, the j-th partial sum at a, zeros above -/
def pwRow (xs ys N : List Int) (n a j : Nat) : Prop := ∀ i, i < n → N.getD i 0 = if i < a then pwAt xs ys i else if i = a then pwT xs ys a j else 0
theorem pwRow_start {xs ys : List Int} {n : Nat} : pwRow xs ys (List.replicate n 0) n 0 0 := fun i _ => by
  rw [getD_rep, pwT_zero]; simp
theorem pwRow_next {xs ys N : List Int} {n a : Nat} (h : pwRow xs ys N n a (memN (winsN xs a) 8).length) : pwRow xs ys N n (a + 1) 0 := fun i hi => by
  rw [h i hi, pwT_zero]
  by_cases h1 : i < a
  · rw [if_pos h1, if_pos (by omega)]
  · rw [if_neg h1]
    by_cases h2 : i = a
    · subst h2; rw [if_pos rfl, if_pos (by omega)]; rfl
    · rw [if_neg h2, if_neg (by omega)]; simp
theorem pwRow_step {xs ys N : List Int} {n a j : Nat} {v : Int} (hl : N.length = n) (h : pwRow xs ys N n a j) (ha : a < n) (hv : pwT xs ys a (j + 1) = v) : pwRow xs ys (N.set a v) n a (j + 1) := fun i hi => by
  by_cases h2 : i = a
  · subst h2
    rw [getD_set_same _ (by omega), if_neg (by omega), if_pos rfl, hv]
  · rw [getD_set_other _ (Ne.symm h2), h i hi, if_neg h2, if_neg h2]
theorem pwRow_at {xs ys N : List Int} {n a j : Nat} (h : pwRow xs ys N n a j) (ha : a < n) : N.getD a 0 = pwT xs ys a j := by
  rw [h a ha, if_neg (by omega), if_pos rfl]
theorem pwRow_end {xs ys N : List Int} {n : Nat} (hn : xs.length = n) (hl : N.length = n) (h : pwRow xs ys N n n 0) : N = pwStep xs ys :=
  list_ext0 hl (by rw [pwStep_len, hn]) fun i hi => by
    rw [h i hi, if_pos hi, pwStep_at (by omega)]
end Go.Proofs.YthoodjjjklbggaaDoor

namespace Go.Proofs.YthoodjjjklbggaaDoor
open Go.RowKit Go.Sort

/-- the defeats against the first t who beat a -/
def lsT (xs : List Int) (a t : Nat) : Int := (((loseN xs a xs.length).take t).map fun b => (xs.length : Int) - 1 - scN xs b).sum
def dsAt (xs : List Int) (a : Nat) : Int := pwAt xs (pwL xs 1) a - lsT xs a (loseN xs a xs.length).length
def dsL (xs : List Int) : List Int := (List.range xs.length).map (dsAt xs)
noncomputable def dsR (s : Int) (xs : List Int) : List Int := if tourB s xs = true then dsL xs else []
theorem dsR_len (s : Int) (xs : List Int) : (dsR s xs).length ≤ 8 := by
  unfold dsR
  split
  · rename_i h
    have := (tourB_true.1 h).1
    have := (tourB_true.1 h).2.1
    simp [dsL]; omega
  · simp
theorem loseN_len (xs : List Int) (a k : Nat) : (loseN xs a k).length ≤ k := by
  unfold loseN
  refine Nat.le_trans (List.length_filter_le _ _) ?_
  rw [List.length_range]; exact Nat.le_refl _
theorem sum_bd2 {l : List Nat} {F : Nat → Int} {B : Int} (h : ∀ b ∈ l, -B ≤ F b ∧ F b ≤ B) : -(B * l.length) ≤ (l.map F).sum ∧ (l.map F).sum ≤ B * l.length := by
  induction l with
  | nil => simp
  | cons b l ih =>
    have ih := ih fun c hc => h c (by simp [hc])
    have hb := h b (by simp)
    have : B * ((b :: l).length : Int) = B * (l.length : Int) + B := by rw [List.length_cons, Int.natCast_add, Int.mul_add]; simp
    rw [List.map_cons, List.sum_cons]
    omega
theorem lsT_bd {xs : List Int} (h8 : xs.length ≤ 8) (a t : Nat) : -128 ≤ lsT xs a t ∧ lsT xs a t ≤ 128 := by
  have := sum_bd2 (l := (loseN xs a xs.length).take t) (F := fun b => (xs.length : Int) - 1 - scN xs b) (B := 16) (fun b _ => by have := scN_bd xs b; omega)
  have h1 : ((loseN xs a xs.length).take t).length ≤ 8 := by rw [List.length_take]; have := loseN_len xs a xs.length; omega
  unfold lsT
  omega
theorem lsT_succ {xs : List Int} {a t : Nat} (h : t < (loseN xs a xs.length).length) : lsT xs a (t + 1) = lsT xs a t + ((xs.length : Int) - 1 - scN xs ((loseN xs a xs.length).getD t 0)) := by
  unfold lsT
  rw [take_snocN h, List.map_append, List.sum_append, getD_nat h]
  simp
theorem lsT_zero (xs : List Int) (a : Nat) : lsT xs a 0 = 0 := by simp [lsT]
theorem pw1_at {s : Int} {xs : List Int} (hp : tourP s xs) {b : Nat} (hb : b < xs.length) : (pwL xs 1).getD b 0 = scN xs b := by
  rw [show pwL xs 1 = pwStep xs (pwL xs 0) from rfl, pwStep_at hb]
  unfold pwAt pwT scN
  rw [List.take_length, pop_mem (tour_wins hp hb).2.2]
  have : ∀ c ∈ memN (winsN xs b) 8, (pwL xs 0).getD c 0 = 1 := fun c hc => by
    have := wins_mem hp hb c hc
    simp [pwL, this]
  rw [List.map_congr_left this]
  generalize memN (winsN xs b) 8 = l
  clear this
  induction l with
  | nil => rfl
  | cons c l ih => rw [List.map_cons, List.sum_cons, ih, List.length_cons]; omega
/-- the row that grows: the power scores, what is lost taken off below a, the first t at a -/
def dsRow (xs P N : List Int) (n a t : Nat) : Prop := ∀ i, i < n → N.getD i 0 = if i < a then P.getD i 0 - lsT xs i (loseN xs i xs.length).length else if i = a then P.getD a 0 - lsT xs a t else P.getD i 0
theorem dsRow_start {xs P : List Int} {n : Nat} : dsRow xs P P n 0 0 := fun i _ => by
  by_cases h : i = 0
  · subst h; simp [lsT_zero]
  · simp [h]
theorem dsRow_next {xs P N : List Int} {n a : Nat} (h : dsRow xs P N n a (loseN xs a xs.length).length) : dsRow xs P N n (a + 1) 0 := fun i hi => by
  rw [h i hi, lsT_zero]
  by_cases h1 : i < a
  · rw [if_pos h1, if_pos (by omega)]
  · rw [if_neg h1]
    by_cases h2 : i = a
    · subst h2; rw [if_pos rfl, if_pos (by omega)]
    · rw [if_neg h2, if_neg (by omega)]
      by_cases h3 : i = a + 1
      · subst h3; simp
      · rw [if_neg h3]
theorem dsRow_step {xs P N : List Int} {n a t : Nat} {v : Int} (hl : N.length = n) (h : dsRow xs P N n a t) (ha : a < n) (hv : P.getD a 0 - lsT xs a (t + 1) = v) : dsRow xs P (N.set a v) n a (t + 1) := fun i hi => by
  by_cases h2 : i = a
  · subst h2
    rw [getD_set_same _ (by omega), if_neg (by omega), if_pos rfl, hv]
  · rw [getD_set_other _ (Ne.symm h2), h i hi, if_neg h2, if_neg h2]
theorem dsRow_at {xs P N : List Int} {n a t : Nat} (h : dsRow xs P N n a t) (ha : a < n) : N.getD a 0 = P.getD a 0 - lsT xs a t := by
  rw [h a ha, if_neg (by omega), if_pos rfl]
theorem dsRow_end {xs N : List Int} {n : Nat} (hn : xs.length = n) (hl : N.length = n) (h : dsRow xs (pwL xs 2) N n n 0) : N = dsL xs :=
  list_ext0 hl (by simp [dsL, hn]) fun i hi => by
    rw [h i hi, if_pos hi, show pwL xs 2 = pwStep xs (pwL xs 1) from rfl, pwStep_at (by omega)]
    simp [dsL, dsAt, show i < xs.length by omega]
def scL (xs : List Int) (k : Nat) : List Int := (List.range k).map (scN xs)
theorem scL_succ (xs : List Int) (k : Nat) : scL xs (k + 1) = scL xs k ++ [scN xs k] := by unfold scL; rw [List.range_succ, List.map_append]; rfl
theorem scL_len (xs : List Int) (k : Nat) : (scL xs k).length = k := by simp [scL]
theorem scL_at (xs : List Int) {k b : Nat} (h : b < k) : (scL xs k).getD b 0 = scN xs b := by simp [scL, h]
end Go.Proofs.YthoodjjjklbggaaDoor

namespace Go.Proofs.YthoodjjjklbggaaDoor
open Go.RowKit Go.Sort
set_option maxRecDepth 100000
set_option maxHeartbeats 1000000 in
theorem scores_any (n : Nat) (sl : Value) (xs : List Int) (w : World) (h : Rd w sl xs) (hp : tourP n xs) :
    Calls Tryd.prog 33 #[.agg #[.int .i64 n, sl]] w fun e w' => ∃ A c, e = .returned (.slice A n c) ∧ Own w' w.heap.size (.slice A n c) (scL xs n) ∧ Below w.heap.size w w' := by
  have HR := Lib.hid h
  have HP := Lib.hid hp
  have hs := hp.1
  have hln : xs.length = n := by have := hp.2.1; omega
  have HLN := Lib.hid hln
  have q0 : tourB n xs = true := tourB_true.2 hp
  obtain ⟨A, c, rfl, -, hcm, -⟩ := h
  unfold maxLen at hcm
  rw [hln] at HR ⊢
  clear hln hp
  go_enter Tryd.func33, Tryd.ntmps33
  go_wp2_with fail
  have b0 := below_alloc1 w (.cells #[.int .i64 n, .slice A n c] 25)
  have x0 := TBox.new w n (.slice A n c) 25
  generalize w.alloc (.cells #[.int .i64 n, .slice A n c] 25) = w0 at *
  have HX0 := Lib.hid x0
  have HB0 := Lib.hid b0
  clear x0 b0
  have y0_0 := HX0.out.1
  have y1_0 := HX0.out.2
  go_wp2_with fail
  refine (implTourOk n _ xs _ (HR.out.below HB0.out)).mono ?_
  rintro e w1 ⟨rfl, hb⟩
  have HX1 := Lib.hid (HX0.out.below hb)
  have HB1 := Lib.hid (Below.then HB0.out hb)
  clear hb HX0 HB0 y0_0 y1_0
  have y0_1 := HX1.out.1
  have y1_1 := HX1.out.2
  rw [q0]
  go_wp2
  go_loopw [3, 10] (fun v i wr => ∃ (a : Nat), a ≤ n ∧ i = .int .i64 a ∧ Hid (Own wr (w.heap.size + 1) v (scL xs a)) ∧ Hid (TBox wr w.heap.size n (.slice A n c)) ∧ Hid (Below w.heap.size w wr)) (fun _ i _ => n - (intOf i).toNat)
  case atStart => exact ⟨0, by omega, rfl, Lib.hid (by simpa [scL] using Own.nil_ _ _), HX1, HB1⟩
  case round =>
    obtain ⟨a, ha, rfl, HOa, HX, HBa⟩ := hrel
    clear HX1 HB1 y0_1 y1_1
    by_cases hlt : a < n
    · have y0 := HX.out.1
      have y1 := HX.out.2
      have HMS := Lib.hid (scL_succ xs a)
      have hSC : Hid (((popN 8 (winsN xs a) : Nat) : Int) = scN xs a) := rfl
      have hsc := scN_bd xs a
      go_wp2_with fail
      refine (score_any n (.slice A n c) xs a _ (HR.out.below HBa.out) HP.out (by have := HLN.out; omega)).mono ?_
      rintro e w5 ⟨rfl, hb5⟩
      rw [hSC.out]
      clear hSC
      have HX5 := Lib.hid (HX.out.below hb5)
      have HO5 := Lib.hid (HOa.out.below hb5)
      have HB5 := Lib.hid (Below.then HBa.out hb5)
      clear hb5 HX HOa HBa y0 y1
      have hlen := scL_len xs a
      have hsz := HB5.out.size
      have ho := HO5.out
      generalize scN xs a = y at *
      generalize scL xs a = X at *
      have hgt := World.block_lt_of_cell? _ _ HX5.out.1
      simp only at hgt
      go_wp2_with (at_builtin; refine wp_append1 _ rfl (.tmp 13) (.tmp 17) rfl (w.heap.size + 1) _ _ _ rfl ho (by simp [Act.eval]) (by omega) (by exact hgt) ?_; intro v' w7 hown1 hg1; have HO7 := Lib.hid hown1; have HB7 := Lib.hid (below_append HB5.out hg1 ho (by omega) hgt); have HX7 := Lib.hid (HX5.out.kept hg1 (nb_ne (own_ne (fun k hk => (ho.lt k hk).1) (by omega)))); clear hown1 hg1)
      go_roundw
      case rel => exact ⟨a + 1, by omega, by go_num, by rw [HMS.out]; exact HO7, HX7, HB7⟩
      case measure => simp [intOf]; omega
    · obtain rfl : n = a := by omega
      go_wp2
      obtain ⟨Y, cy, rfl, -, -, -⟩ := HOa.out.form
      rw [scL_len] at *
      go_ret
      exact ⟨Y, cy, rfl, HOa.out.mono (by omega), HBa.out⟩
end Go.Proofs.YthoodjjjklbggaaDoor

namespace Go.Proofs.YthoodjjjklbggaaDoor
open Go.RowKit Go.Sort
set_option maxRecDepth 100000
variable {n : Nat} {xs : List Int} {sl : Value} {w : World}
end Go.Proofs.YthoodjjjklbggaaDoor

namespace Go.Proofs.YthoodjjjklbggaaDoor
open Go.RowKit

def maxTo (xs : List Int) : Nat → Int
  | 0 => xs[0]?.getD 0
  | k + 1 => max (maxTo xs k) (xs[k + 1]?.getD 0)
/-- the greatest of the numbers -/
def maxI (xs : List Int) : Int := maxTo xs (xs.length - 1)
theorem maxTo_bd {xs : List Int} {lo hi : Int} (h : ∀ k : Nat, lo ≤ xs[k]?.getD 0 ∧ xs[k]?.getD 0 ≤ hi) (k : Nat) : lo ≤ maxTo xs k ∧ maxTo xs k ≤ hi := by
  induction k with
  | zero => exact h 0
  | succ k ih => have := h (k + 1); unfold maxTo; omega
theorem maxTo_ge (xs : List Int) (k : Nat) : ∀ j, j ≤ k → xs[j]?.getD 0 ≤ maxTo xs k := by
  induction k with
  | zero => intro j hj; obtain rfl : j = 0 := by omega
            exact Int.le_refl _
  | succ k ih =>
    intro j hj
    unfold maxTo
    by_cases h : j = k + 1
    · subst h; omega
    · have := ih j (by omega); omega
theorem maxTo_mem (xs : List Int) (k : Nat) : ∃ j, j ≤ k ∧ maxTo xs k = xs[j]?.getD 0 := by
  induction k with
  | zero => exact ⟨0, Nat.le_refl _, rfl⟩
  | succ k ih =>
    obtain ⟨j, hj, e⟩ := ih
    unfold maxTo
    by_cases h : maxTo xs k ≤ xs[k + 1]?.getD 0
    · exact ⟨k + 1, Nat.le_refl _, by omega⟩
    · exact ⟨j, by omega, by omega⟩
theorem maxI_pos {xs : List Int} (h0 : ∀ x ∈ xs, 0 ≤ x) (hne : 0 < xs.length) : 0 < maxI xs ↔ ∃ x ∈ xs, x ≠ 0 := by
  constructor
  · intro h
    obtain ⟨j, hj, e⟩ := maxTo_mem xs (xs.length - 1)
    have hjl : j < xs.length := by omega
    refine ⟨xs[j], List.getElem_mem hjl, ?_⟩
    unfold maxI at h
    rw [e, List.getElem?_eq_getElem hjl] at h
    simp at h
    omega
  · rintro ⟨x, hx, hx0⟩
    obtain ⟨j, hj, rfl⟩ := List.mem_iff_getElem.1 hx
    have h1 := maxTo_ge xs (xs.length - 1) j (by omega)
    rw [List.getElem?_eq_getElem hj] at h1
    have h2 := h0 _ (List.getElem_mem hj)
    simp at h1
    unfold maxI
    omega

set_option maxHeartbeats 400000 in
theorem max_any (v : Value) (xs : List Int) (w : World) (h : Rd w v xs) (hne : 0 < xs.length) :
    Calls Tryd.prog 34 #[v] w fun e w' => e = .returned (.int .i64 (maxI xs)) ∧ w = w' := by
  obtain ⟨A, c, rfl, hl1, hm1, hc1⟩ := h
  unfold maxLen at hm1
  obtain ⟨b, off, rfl, hb, hx⟩ := hc1 hne
  generalize hn : xs.length = n at *
  have H1 := Lib.hid hn
  have h0 := hx 0 (by omega)
  simp only [Nat.add_zero] at h0
  have HX := Lib.hid hx
  have hlt1 : ¬ ((n : Int) < 1) := by omega
  clear hn hc1 hx
  go_enter Tryd.func34, Tryd.ntmps34
  go_wp2
  go_loop [3, 4] (fun s i => ∃ k : Nat, k + 1 ≤ n ∧ i = .int .i64 ((k + 1 : Nat) : Int) ∧ s = .int .i64 (maxTo xs k)) (fun _ i => n - (intOf i).toNat)
  case atStart => exact ⟨0, by omega, rfl, by simp [maxTo]⟩
  case round =>
    obtain ⟨k, hk, rfl, rfl⟩ := hrel
    by_cases hlt : k + 1 < n
    · have hxk := HX.out (k + 1) hlt
      have hms : maxTo xs (k + 1) = max (maxTo xs k) (xs[k + 1]?.getD 0) := rfl
      have HM := Lib.hid hms
      clear hms
      generalize maxTo xs k = m at *
      go_wp2
      go_round
      case rel => exact ⟨k + 1, by omega, by go_num, by first | (rw [HM.out]; done) | (rw [HM.out]; congr 1; done) | (rw [HM.out]; congr 1; split <;> omega)⟩
      case measure => simp [intOf]; omega
    · have hge : ¬ (((k + 1 : Nat) : Int) < (n : Int)) := by omega
      go_wp2
      go_ret
      refine ⟨ret_int ?_, rfl⟩
      have := H1.out
      unfold maxI
      rw [this, show n - 1 = k from by omega]
end Go.Proofs.YthoodjjjklbggaaDoor

namespace Go.Proofs.YthoodjjjklbggaaDoor
open Go.RowKit Go.Sort
set_option maxRecDepth 100000
variable {n : Nat} {sl : Value} {xs : List Int} {w : World}
theorem maxTo_const {xs : List Int} {s : Int} {m : Nat} (h : ∀ i, i < m → xs[i]?.getD 0 = s) : ∀ k, k < m → maxTo xs k = s
  | 0, hk => h 0 hk
  | k + 1, hk => by rw [maxTo, maxTo_const h k (by omega), h (k + 1) hk]; exact Int.max_self _
set_option maxHeartbeats 1000000 in
theorem min_const (v : Value) (xs : List Int) (w : World) (s : Int) (h : Rd w v xs) (hne : 0 < xs.length) (hs : ∀ i, i < xs.length → xs.getD i 0 = s) :
    Calls Tryd.prog 35 #[v] w fun e w' => e = .returned (.int .i64 s) ∧ w = w' := by
  obtain ⟨A, c, rfl, hl1, hm1, hc1⟩ := h
  unfold maxLen at hm1
  obtain ⟨b, off, rfl, hb, hx⟩ := hc1 hne
  generalize hn : xs.length = n at *
  have HX : Hid (∀ k, k < n → w.cell? ⟨b, off + k, none⟩ = some (.int .i64 s)) := Lib.hid fun k hk => by rw [hx k hk, hs k hk]
  have z0 := HX.out 0 hne
  rw [Nat.add_zero] at z0
  clear hx hs hn
  go_enter Tryd.func35, Tryd.ntmps35
  go_wp2
  clear z0
  go_loop [3, 4] (fun t3 t4 => ∃ i : Nat, 1 ≤ i ∧ i ≤ n ∧ t4 = .int .i64 i ∧ t3 = .int .i64 s) (fun _ t4 => n - (intOf t4).toNat)
  case atStart => exact ⟨1, by omega, by omega, rfl, rfl⟩
  case round =>
    obtain ⟨i, h1, hi, rfl, rfl⟩ := hrel
    by_cases hlt : i < n
    · have zi := HX.out i hlt
      go_wp2
      go_round
      case rel => exact ⟨i + 1, by omega, by omega, by go_num, by first | rfl | simp⟩
      case measure => simp [intOf]; omega
    · obtain rfl : i = n := by omega
      go_wp2
      go_ret
      exact ⟨rfl, rfl⟩
set_option maxHeartbeats 2000000 in
theorem cRegular (hp : tourP n xs) (h : Rd w sl xs) {s : Nat} (hs : ∀ a, a < n → scN xs a = s) : Calls Tryd.prog 7 #[.agg #[.int .i64 n, sl]] w fun e w' => e = .returned (.bool true) ∧ Below w.heap.size w w' := by
  have HR := Lib.hid h
  have h1 : 1 ≤ n := by have := hp.1; omega
  have hs8 : s ≤ 8 := by have h2 := hs 0 (by omega); have := scN_bd xs 0; omega
  obtain ⟨A, cA, rfl, -, -, -⟩ := h
  rw [tour_len hp] at *
  have HP := Lib.hid hp
  have HL : Hid (∀ i, i < (scL xs n).length → (scL xs n).getD i 0 = (s : Int)) := Lib.hid fun i hi => by
    rw [scL_len] at hi
    rw [scL_at xs hi, hs i hi]
  have HM : Hid (maxI (scL xs n) = (s : Int)) := Lib.hid (maxTo_const (m := n) (fun i hi => by
    have := HL.out i (by rw [scL_len]; exact hi)
    rwa [List.getD_eq_getElem?_getD] at this) _ (by rw [scL_len]; omega))
  clear hp hs
  go_enter Tryd.func7, Tryd.ntmps7
  go_wp2_with fail
  have b0 := below_alloc1 w (.cells #[.int .i64 n, .slice A n cA] 25)
  have x0 := TBox.new w n (.slice A n cA) 25
  generalize w.alloc (.cells #[.int .i64 n, .slice A n cA] 25) = w0 at *
  have HX0 := Lib.hid x0
  have HB0 := Lib.hid b0
  clear x0 b0
  have y0_0 := HX0.out.1
  have y1_0 := HX0.out.2
  go_wp2_with fail
  refine (scores_any n _ xs w0 (HR.out.below HB0.out) HP.out).mono ?_
  rintro e w1 ⟨S, sc, rfl, ho, hb⟩
  have HB1 := Lib.hid (Below.then HB0.out hb)
  have HS1 := Lib.hid ho.rd
  obtain ⟨sg, so, rfl⟩ := rd_at ho.rd (scL_len _ _) h1
  clear ho hb y0_0 y1_0 HX0 HB0
  have hsl : (scL xs n).length = n := scL_len _ _
  go_wp2_with fail
  refine (max_any _ (scL xs n) w1 HS1.out (by rw [hsl]; omega)).mono ?_
  rintro e _ ⟨rfl, rfl⟩
  rw [HM.out]
  go_wp2_with fail
  refine (min_const _ (scL xs n) w1 s HS1.out (by rw [hsl]; omega) HL.out).mono ?_
  rintro e _ ⟨rfl, rfl⟩
  clear hsl
  go_wp2
  go_ret
  exact ⟨by simp, HB1.out⟩
/-- three from n, less two from what each has at most -/
def mtK (n k : Nat) : Int := (chN n 3 : Int) - (((List.range k).map fun a => chN ((n - 1 + a % 2) / 2) 2).sum : Nat)
theorem mtK_all : ∀ n, n < 9 → ∀ k, k ≤ n → mtK n (k + 1) = mtK n k - (chN ((n - 1 + k % 2) / 2) 2 : Nat) ∧ -1000 ≤ mtK n k ∧ mtK n k ≤ 1000 ∧ (n - 1 + k % 2) / 2 ≤ 8 ∧ chN ((n - 1 + k % 2) / 2) 2 ≤ 100 := by decide +kernel
set_option maxHeartbeats 2000000 in
theorem cMost (n : Nat) (h1 : 1 ≤ n) (h8 : n ≤ 8) (w : World) : Calls Tryd.prog 10 #[.int .i64 n] w fun e w' => e = .returned (.int .i64 (mtK n n)) ∧ w = w' := by
  have hin : inB (n : Int) 1 8 = true := inB_true.2 ⟨by omega, by omega⟩
  have HM := Lib.hid (fun k hk => mtK_all n (by omega) k hk)
  have HZ : Hid (mtK n 0 = (chN n 3 : Int)) := Lib.hid (by simp [mtK])
  go_enter Tryd.func10, Tryd.ntmps10
  go_wp2_with fail
  refine (within_any _ _ _ _).mono ?_
  rintro e _ ⟨rfl, rfl⟩
  rw [hin]
  clear hin
  go_wp2_with fail
  refine (choose_any n 3 w h8 (by decide)).mono ?_
  rintro e _ ⟨rfl, rfl⟩
  rw [← HZ.out]
  go_wp2
  go_loop [3, 11] (fun t3 t11 => ∃ k : Nat, k ≤ n ∧ t11 = .int .i64 k ∧ t3 = .int .i64 (mtK n k)) (fun _ t11 => n - (intOf t11).toNat)
  case atStart => exact ⟨0, by omega, rfl, rfl⟩
  case round =>
    obtain ⟨k, hk, rfl, rfl⟩ := hrel
    by_cases hlt : k < n
    · obtain ⟨e1, e2, e3, e4, e5⟩ := HM.out k (by omega)
      have HE := Lib.hid e1
      obtain ⟨q, hq⟩ : ∃ q, q = (n - 1 + k % 2) / 2 := ⟨_, rfl⟩
      rw [← hq] at e4 e5 HE
      have HQ := Lib.hid hq
      have f3 : ((n : Int) - 1 + (k : Int) % 2) / 2 = (q : Int) := by rw [HQ.out]; omega
      clear e1 hq
      go_wp2_with fail
      refine (choose_any q 2 w e4 (by decide)).mono ?_
      rintro e _ ⟨rfl, rfl⟩
      generalize mtK n k = T at *
      generalize chN q 2 = C at *
      clear f3
      go_wp2
      go_round
      case rel => exact ⟨k + 1, by omega, by go_num, by rw [HE.out]⟩
      case measure => simp [intOf]; omega
    · obtain rfl : k = n := by omega
      go_wp2
      go_ret
      exact ⟨rfl, rfl⟩
end Go.Proofs.YthoodjjjklbggaaDoor

namespace Go.Proofs.YthoodjjjklbggaaDoor
open Go.RowKit Go.Sort
set_option maxRecDepth 100000
def nI (l : List Nat) : List Int := l.map fun (a : Nat) => (a : Int)
theorem nI_len (l : List Nat) : (nI l).length = l.length := by simp [nI]
theorem nI_getD {l : List Nat} {k : Nat} (h : k < l.length) : (nI l).getD k 0 = ((l.getD k 0 : Nat) : Int) := by simp [nI, h]
theorem nI_snoc (l : List Nat) (b : Nat) : nI (l ++ [b]) = nI l ++ [(b : Int)] := by simp [nI]
def lastN (way : List Nat) : Nat := way.getD (way.length - 1) 0
def cand (xs : List Int) (n : Nat) (way : List Nat) : List Nat := (memN (winsN xs (lastN way)) n).filter fun b => !way.contains b
def dfs (xs : List Int) (n : Nat) (want : List Nat → Bool) : Nat → List Nat → Option (List Nat)
  | 0, way => if want way = true then some way else none
  | m + 1, way => (cand xs n way).findSome? fun b => dfs xs n want m (way ++ [b])
theorem fs_hit {β : Type} {l : List Nat} {F : Nat → Option β} {k : Nat} {y : β} (hk : k < l.length) (h0 : ∀ j, j < k → F (l.getD j 0) = none) (hy : F (l.getD k 0) = some y) : l.findSome? F = some y := by
  have e : l = l.take k ++ l.getD k 0 :: l.drop (k + 1) := by
    rw [getD_nat hk, ← List.drop_eq_getElem_cons hk, List.take_append_drop]
  have h1 : (l.take k).findSome? F = none := by
    rw [List.findSome?_eq_none_iff]
    intro x hx
    obtain ⟨j, hj, rfl⟩ := List.getElem_of_mem hx
    rw [List.length_take] at hj
    have := h0 j (by omega)
    rw [getD_nat (show j < l.length by omega)] at this
    simpa using this
  rw [e, List.findSome?_append, h1, List.findSome?_cons, hy]
  rfl
theorem fs_miss {β : Type} {l : List Nat} {F : Nat → Option β} (h0 : ∀ j, j < l.length → F (l.getD j 0) = none) : l.findSome? F = none := by
  rw [List.findSome?_eq_none_iff]
  intro x hx
  obtain ⟨j, hj, rfl⟩ := List.getElem_of_mem hx
  have := h0 j hj
  rwa [getD_nat hj] at this
theorem dfs_len {xs : List Int} {n : Nat} {want : List Nat → Bool} : ∀ {m : Nat} {way L : List Nat}, dfs xs n want m way = some L → L.length = way.length + m := by
  intro m
  induction m with
  | zero =>
    intro way L h
    rw [dfs] at h
    split at h
    · injection h with h; subst h; rfl
    · cases h
  | succ m ih =>
    intro way L h
    rw [dfs] at h
    obtain ⟨b, -, hb⟩ := List.exists_of_findSome?_eq_some h
    have := ih hb
    rw [List.length_append, List.length_singleton] at this
    omega
def setW (way : List Nat) : Nat := way.foldl (fun s b => s ||| 2 ^ b) 0
theorem setW_snoc (l : List Nat) (b : Nat) : setW (l ++ [b]) = setW l ||| 2 ^ b := by simp [setW, List.foldl_append]
theorem take_snocN' {l : List Nat} {k : Nat} (hk : k < l.length) : l.take (k + 1) = l.take k ++ [l.getD k 0] := by
  rw [List.take_succ_eq_append_getElem hk, getD_nat hk]
theorem testBit_setW (l : List Nat) (j : Nat) : (setW l).testBit j = l.contains j := by
  have : ∀ k, k ≤ l.length → (setW (l.take k)).testBit j = (l.take k).contains j := by
    intro k
    induction k with
    | zero => intro _; simp [setW]
    | succ k ih =>
      intro hk
      rw [take_snocN' (by omega), setW_snoc, Nat.testBit_or, ih (by omega), Nat.testBit_two_pow, Bool.eq_iff_iff]
      simp
      exact ⟨fun h => h.imp id Eq.symm, fun h => h.imp id Eq.symm⟩
  have := this l.length (Nat.le_refl _)
  rwa [List.take_length] at this
theorem setW_lt {l : List Nat} {n : Nat} (h : ∀ x ∈ l, x < n) : setW l < 2 ^ n := by
  apply Nat.lt_pow_two_of_testBit
  intro i hi
  rw [testBit_setW]
  rcases q : l.contains i with _ | _
  · rfl
  · have := h i (by simpa using q); omega
theorem memN_lessW (S n : Nat) (way : List Nat) : memN (less S (setW way)) n = (memN S n).filter fun b => !way.contains b := by
  unfold memN
  rw [List.filter_filter]
  refine List.filter_congr fun x _ => ?_
  rw [testBit_less, testBit_setW, Bool.and_comm]
theorem cand_lt {xs : List Int} {n : Nat} {way : List Nat} {b : Nat} (h : b ∈ cand xs n way) : b < n ∧ (winsN xs (lastN way)).testBit b = true ∧ ¬ b ∈ way := by
  unfold cand at h
  rw [List.mem_filter] at h
  exact ⟨(mem_memN.1 h.1).1, (mem_memN.1 h.1).2, by simpa using h.2⟩
theorem or_shl'' (S a : Nat) (hS : S < 4611686018427387904) (h : a ≤ 61) : bits .or .i64 (S : Int) (wrap64 (2 ^ a)) = ((S ||| 2 ^ a : Nat) : Int) := or_shl S a hS h
theorem own_prefix {w : World} {base g n c : Nat} {xs : List Int} {y : Int} (hn : xs.length = n) (h : Own w base (.slice (some ⟨g, 0, none⟩) (n + 1) c) (xs ++ [y])) : Own w base (.slice (some ⟨g, 0, none⟩) n c) xs := by
  subst hn
  refine ⟨by simp, .inr ?_⟩
  rcases h.2 with ⟨e, -⟩ | ⟨g', cap, cur, e, hb, hh, hle, hm, hs, ht⟩
  · cases e
  · injection e with e1 e2 e3
    injection e1 with e1
    injection e1 with e1 _ _
    subst e1 e3
    refine ⟨g, c, cur, rfl, hb, hh, by simp at hle; omega, hm, hs, ?_⟩
    have h1 := congrArg (List.take xs.length) ht
    rw [List.take_take] at h1
    simp at h1
    simpa using h1
theorem run_append1k (w : World) (ty : TypeId) (base : Nat) (v : Value) (xs : List Int) (y : Int) (gx : Nat) (hown : Own w base v xs) (hc : w.cell? ⟨gx, 0, none⟩ = some (.int .i64 y)) (hlen : xs.length ≤ 1099511627776) (hbase : base ≤ w.heap.size) :
    ∃ g c w', (Builtin.append_ #[23, 23] ty #[v, .slice (some ⟨gx, 0, none⟩) 1 1]).run Tryd.prog w = .ok (.slice (some ⟨g, 0, none⟩) (xs.length + 1) c) w' ∧
      Own w' base (.slice (some ⟨g, 0, none⟩) (xs.length + 1) c) (xs ++ [y]) ∧ Own w' base v xs ∧ w.grownBy w' v.ownBlock ∧ (v = .slice (some ⟨g, 0, none⟩) xs.length c ∨ g = w.heap.size) := by
  obtain ⟨i0, hi, hz0, hz1, hz2⟩ := info_parts i64_info
  have hnews : ∀ j u, [Value.int .i64 y][j]? = some u → w.cell? ((⟨gx, 0, none⟩ : Addr).add j) = some u := by
    intro j u hj
    match j, hj with
    | 0, hj => simp at hj; subst hj; simpa [Addr.add] using hc
  have h1 : ∀ u ∈ [Value.int .i64 y], u.oneCell' = true := by intro u hu; simp at hu; subst hu; rfl
  obtain ⟨v', w', hr, h2, h3, -, h5⟩ := run_append_own_at (P := Tryd.prog) w base 23 ty 3 i0 (.int .i64 0) 1 8 Tryd.underlying23 hi hz0 hz1 hz2 rfl (by decide) v xs.length (xs.map (Value.int .i64)) hown ⟨gx, 0, none⟩ 1 1 [.int .i64 y] rfl hnews h1 (by unfold maxLen; omega) (by omega) hbase
  have h2' : Own w' base v' (xs ++ [y]) := by unfold Own; rw [List.length_append, List.map_append]; exact h2
  obtain ⟨A, c', e, -, -, hA⟩ := h2'.form
  obtain ⟨g', rfl, -, -⟩ := hA (by simp)
  rw [List.length_append, List.length_singleton] at e
  subst e
  rcases hown.2 with ⟨rfl, h0⟩ | ⟨g, cap, cur, rfl, hbg, hg, hnc, hcm, hcs, htake⟩
  · refine ⟨g', c', w', hr, h2', ?_, h3, .inr ?_⟩
    · rw [show xs = [] from List.eq_nil_of_length_eq_zero h0]; exact Own.nil_ _ _
    · rcases h5 with h | h
      · simp [Value.ownBlock] at h
      · simpa [Value.ownBlock] using h
  · by_cases hroom : xs.length + 1 ≤ cap
    · have hr' := run_append_room (P := Tryd.prog) w 23 ty 3 i0 Tryd.underlying23 hi g xs.length cap cur hg ⟨gx, 0, none⟩ 1 1 [.int .i64 y] (by rw [hz1]; rfl) hnews h1 hroom (by rw [hz1]; simp; omega)
      have e := hr.symm.trans hr'
      injection e with e1 e2
      injection e1 with e1 e3 e4
      injection e1 with e1
      injection e1 with e1 _ _
      subst e1 e4
      exact ⟨g', c', w', hr, h2', own_prefix rfl h2', h3, .inl rfl⟩
    · have hr' := run_append_grow (P := Tryd.prog) w 23 ty 3 i0 (.int .i64 0) Tryd.underlying23 hi hz0 ⟨g, 0, none⟩ xs.length cap (xs.map (Value.int .i64)) (by rw [hz1]; simp) (hown.cells (g := g) rfl) ⟨gx, 0, none⟩ 1 1 [.int .i64 y] (by rw [hz1]; rfl) hnews (by omega) (by omega) (growslice_fits (by omega) (by rw [hz2]; omega))
      have e := hr.symm.trans hr'
      injection e with e1 e2
      injection e1 with e1 e3 e4
      injection e1 with e1
      injection e1 with e1 _ _
      subst e1 e2
      exact ⟨_, c', _, hr, h2', World.ownsRow.alloc (World.ownsRow.drew hown) _, h3, .inr rfl⟩
theorem step_append1k {ops : Array Oper} {o : Oper} {a : Act} {K : Act → World → Prop} {Q : Exit → Act → World → Prop} {E : Prop} (w : World) (hgd : o.guard = none) (s x : Operand)
    (ho : o.op = .call { callee := .builtin .append, args := #[s, x], argTypes := #[23, 23] })
    (base : Nat) (v : Value) (xs : List Int) (n : Nat) (hn : xs.length = n) (y : Int) (gx : Nat) (hs : a.eval s = v) (hown : Own w base v xs) (hx : a.eval x = .slice (some ⟨gx, 0, none⟩) 1 1) (hc : w.cell? ⟨gx, 0, none⟩ = some (.int .i64 y))
    (hlen : n ≤ 1099511627776) (hbase : base ≤ w.heap.size)
    (h : ∀ g c w', Own w' base (.slice (some ⟨g, 0, none⟩) (n + 1) c) (xs ++ [y]) → Own w' base v xs → w.grownBy w' v.ownBlock → (v = .slice (some ⟨g, 0, none⟩) n c ∨ g = w.heap.size) → K (a.put o.dst (.slice (some ⟨g, 0, none⟩) (n + 1) c)) w') :
    if Region.wanted o (yielded ops a.tmps) = true then Oper.wp Tryd.prog o a w K Q else E := by
  subst hn
  have hw : Region.wanted o (yielded ops a.tmps) = true := by simp [Region.wanted, hgd]
  rw [if_pos hw]
  obtain ⟨g, c, w', hr, h1, h2, h3, h4⟩ := run_append1k w o.type base v xs y gx hown hc hlen hbase
  unfold Oper.wp execOp
  simp only [ho, resolve, invoke, builtin, Sem.run_bind, Sem.run_pure, Result.andThen_ok, List.map_toArray, List.map_cons, List.map_nil, hs, hx, hr]
  exact h g c w' h1 h2 h3 h4
end Go.Proofs.YthoodjjjklbggaaDoor

