/- Texts put together: OrA. -/
import Derived.Test.YtbkiedhaacapbaaGreatMTop16
import Derived.Test.YtbkiedhaacapbaaGreatMTop02
import Derived.Deep.RegionHeld3
import Derived.Deep.DeepCutAuto
import Derived.Deep.OwnRows
namespace Go.Proofs.YtbkiedhaacapbaaGreat
open Go.RowKit Go.Sort
set_option maxRecDepth 100000
theorem bt_irr {xs : List Int} {n : Nat} (hp : tourP n xs) (a : Nat) : bt xs a a = false := by
  by_cases ha : a < xs.length
  · exact (tour_bits hp).2.1 a ha
  · unfold bt winsN
    rw [List.getD_eq_getElem?_getD, List.getElem?_eq_none (by omega)]
    simp
theorem cost_pop {xs : List Int} {n S a : Nat} (hp : tourP n xs) (ha : a < n) (hS : S < 2 ^ n) : popN 8 (S &&& lossN xs a) = costN (bt xs) n S a := by
  have hl := tour_len hp
  have h8 : n ≤ 8 := by have := hp.1; omega
  have hlt : S &&& lossN xs a < 256 := Nat.lt_of_le_of_lt Nat.and_le_left (Nat.lt_of_lt_of_le hS (pow_le h8))
  rw [pop_mem hlt]
  have e8 : memN (S &&& lossN xs a) 8 = memN (S &&& lossN xs a) n := by
    have : (S &&& lossN xs a) / 2 ^ n = 0 := Nat.div_eq_of_lt (Nat.lt_of_le_of_lt Nat.and_le_left hS)
    rw [memN_top h8 this]
  rw [e8]
  unfold costN
  have e1 : memN (S &&& lossN xs a) n = (memN S n).filter fun b => (lossN xs a).testBit b := by
    unfold memN
    rw [List.filter_filter]
    refine List.filter_congr fun b _ => ?_
    rw [Nat.testBit_and, Bool.and_comm]
  rw [e1, ← List.countP_eq_length_filter]
  refine List.countP_congr fun b hb => ?_
  have hbn := (mem_memN.1 hb).1
  have h1 : b ∈ memN (lossN xs a) xs.length ↔ b ∈ loseN xs a xs.length := by rw [loss_list hp (by rw [hl]; exact ha)]
  obtain ⟨T, e, -⟩ := (tour_bits hp).1 b (by rw [hl]; exact hbn)
  rw [mem_memN, hl] at h1
  unfold loseN at h1
  rw [List.mem_filter, List.mem_range, bitI_bt e] at h1
  simp only [hbn, true_and] at h1
  exact h1
/-- the rows of the table, as far as they stand -/
def arF (r : Nat → Nat → Bool) (n S k : Nat) : Int × Nat := ((memN S n).take k).foldl (arStp (fun a => (costN r n S a : Int) + (arT r n (less S (2 ^ a))).1) (fun a => (arT r n (less S (2 ^ a))).2)) (-1, 0)
def arIs (r : Nat → Nat → Bool) (n S : Nat) (F M : List Int) : Prop :=
  F.length = 2 ^ n ∧ M.length = 2 ^ n ∧ (∀ T, T < S → F.getD T 0 = (arT r n T).1 ∧ M.getD T 0 = ((arT r n T).2 : Int)) ∧ ∀ T, S ≤ T → M.getD T 0 = 0
def arIn (r : Nat → Nat → Bool) (n S k : Nat) (F M : List Int) : Prop :=
  F.length = 2 ^ n ∧ M.length = 2 ^ n ∧ (∀ T, T < S → F.getD T 0 = (arT r n T).1 ∧ M.getD T 0 = ((arT r n T).2 : Int)) ∧ (∀ T, S < T → M.getD T 0 = 0) ∧ F.getD S 0 = (arF r n S k).1 ∧ M.getD S 0 = ((arF r n S k).2 : Int)
theorem arIn_start {r : Nat → Nat → Bool} {n S : Nat} {F M : List Int} (h : arIs r n S F M) (hS : S < 2 ^ n) : arIn r n S 0 (F.set S (-1)) M := by
  obtain ⟨h1, h2, h3, h4⟩ := h
  refine ⟨by rw [List.length_set]; exact h1, h2, fun T hT => ?_, fun T hT => h4 T (by omega), ?_, ?_⟩
  · rw [getD_set_ne' _ (by omega : S ≠ T)]; exact h3 T hT
  · rw [getD_set_eq' _ (by omega)]; rfl
  · rw [h4 S (Nat.le_refl _)]; rfl
theorem arF_succ {r : Nat → Nat → Bool} {n S k : Nat} (hk : k < (memN S n).length) : arF r n S (k + 1) = arStp (fun a => (costN r n S a : Int) + (arT r n (less S (2 ^ a))).1) (fun a => (arT r n (less S (2 ^ a))).2) (arF r n S k) ((memN S n).getD k 0) := by
  unfold arF
  rw [take_snocN hk, List.foldl_append, getD_nat hk]
  rfl
theorem arF_cases {r : Nat → Nat → Bool} {n S k : Nat} (hk : k < (memN S n).length) {a : Nat} (ea : (memN S n).getD k 0 = a) {R : Nat} (eR : less S (2 ^ a) = R) :
    (((arF r n S k).1 < 0 ∨ (costN r n S a : Int) + (arT r n R).1 < (arF r n S k).1) → arF r n S (k + 1) = ((costN r n S a : Int) + (arT r n R).1, (arT r n R).2)) ∧
    (¬ ((arF r n S k).1 < 0 ∨ (costN r n S a : Int) + (arT r n R).1 < (arF r n S k).1) → (costN r n S a : Int) + (arT r n R).1 = (arF r n S k).1 → arF r n S (k + 1) = ((arF r n S k).1, (arF r n S k).2 + (arT r n R).2)) ∧
    (¬ ((arF r n S k).1 < 0 ∨ (costN r n S a : Int) + (arT r n R).1 < (arF r n S k).1) → ¬ (costN r n S a : Int) + (arT r n R).1 = (arF r n S k).1 → arF r n S (k + 1) = arF r n S k) := by
  subst ea eR
  rw [arF_succ hk]
  unfold arStp
  exact ⟨fun h => if_pos h, fun h h2 => by rw [if_neg h]; exact if_pos h2, fun h h2 => by rw [if_neg h]; exact if_neg h2⟩
theorem less_small {n S a : Nat} (hS : S < 2 ^ 62) (ha : a ≤ 61) (h : a ∈ memN S n) : less S (2 ^ a) < S := by
  have hb := (mem_memN.1 h).2
  rw [← sub_less hS ha hb]
  have := Nat.two_pow_pos a
  have := Nat.ge_two_pow_of_testBit hb
  omega
theorem arF_full {r : Nat → Nat → Bool} {n S : Nat} (hS : S < 2 ^ n) (h0 : S ≠ 0) : arF r n S (memN S n).length = arT r n S := by
  unfold arF
  rw [List.take_length, arT_eq hS h0]
theorem arIn_done {r : Nat → Nat → Bool} {n S : Nat} {F M : List Int} (h : arIn r n S (memN S n).length F M) (hS : S < 2 ^ n) (h0 : S ≠ 0) : arIs r n (S + 1) F M := by
  obtain ⟨h1, h2, h3, h4, h5, h6⟩ := h
  refine ⟨h1, h2, fun T hT => ?_, fun T hT => h4 T (by omega)⟩
  by_cases e : T = S
  · subst e
    rw [arF_full hS h0] at h5 h6
    exact ⟨h5, h6⟩
  · exact h3 T (by omega)
theorem arIn_keep {r : Nat → Nat → Bool} {n S k : Nat} {F M : List Int} (h : arIn r n S k F M) (he : arF r n S (k + 1) = arF r n S k) : arIn r n S (k + 1) F M := by
  obtain ⟨h1, h2, h3, h4, h5, h6⟩ := h
  exact ⟨h1, h2, h3, h4, by rw [he]; exact h5, by rw [he]; exact h6⟩
theorem arIn_both {r : Nat → Nat → Bool} {n S k : Nat} {F M : List Int} (h : arIn r n S k F M) (hS : S < 2 ^ n) {c : Int} {m : Nat} (he : arF r n S (k + 1) = (c, m)) : arIn r n S (k + 1) (F.set S c) (M.set S m) := by
  obtain ⟨h1, h2, h3, h4, h5, h6⟩ := h
  refine ⟨by rw [List.length_set]; exact h1, by rw [List.length_set]; exact h2, fun T hT => ?_, fun T hT => ?_, ?_, ?_⟩
  · rw [getD_set_ne' _ (by omega : S ≠ T), getD_set_ne' _ (by omega : S ≠ T)]; exact h3 T hT
  · rw [getD_set_ne' _ (by omega : S ≠ T)]; exact h4 T hT
  · rw [getD_set_eq' _ (by omega), he]
  · rw [getD_set_eq' _ (by omega), he]
theorem arIn_more {r : Nat → Nat → Bool} {n S k : Nat} {F M : List Int} (h : arIn r n S k F M) (hS : S < 2 ^ n) {m : Nat} (he : arF r n S (k + 1) = ((arF r n S k).1, m)) : arIn r n S (k + 1) F (M.set S m) := by
  obtain ⟨h1, h2, h3, h4, h5, h6⟩ := h
  refine ⟨h1, by rw [List.length_set]; exact h2, fun T hT => ?_, fun T hT => ?_, by rw [he]; exact h5, ?_⟩
  · rw [getD_set_ne' _ (by omega : S ≠ T)]; exact h3 T hT
  · rw [getD_set_ne' _ (by omega : S ≠ T)]; exact h4 T hT
  · rw [getD_set_eq' _ (by omega), he]
theorem arF_bound {r : Nat → Nat → Bool} {n S B : Nat} (hn : n ≤ 8) (hB : ∀ a, 0 ≤ (arT r n (less S (2 ^ a))).1 ∧ (arT r n (less S (2 ^ a))).1 ≤ 64 ∧ (arT r n (less S (2 ^ a))).2 ≤ B) : ∀ k, k ≤ (memN S n).length → -1 ≤ (arF r n S k).1 ∧ (arF r n S k).1 ≤ 72 ∧ (arF r n S k).2 ≤ k * B := by
  intro k
  induction k with
  | zero => intro _; unfold arF; exact ⟨by simp, by simp, by simp⟩
  | succ k ih =>
    intro hk
    obtain ⟨i1, i2, i3⟩ := ih (by omega)
    rw [arF_succ (by omega), Nat.succ_mul]
    generalize (memN S n).getD k 0 = a
    obtain ⟨b1, b2, b3⟩ := hB a
    have hc : costN r n S a ≤ 8 := Nat.le_trans List.countP_le_length (Nat.le_trans (memN_len S n) hn)
    unfold arStp
    generalize arF r n S k = z at *
    obtain ⟨z1, z2⟩ := z
    simp only at *
    generalize k * B = q at *
    split
    · exact ⟨by simp only; omega, by simp only; omega, by simp only; omega⟩
    · split
      · exact ⟨i1, i2, by simp only; omega⟩
      · exact ⟨i1, i2, by simp only; omega⟩
variable {n : Nat} {sl : Value} {xs : List Int} {w : World}
set_option maxHeartbeats 1000000 in
theorem cCost (hp : tourP n xs) (h : Rd w sl xs) {a S : Nat} (ha : a < n) (hS : S < 2 ^ n) : Calls Tryz.prog 43 #[.agg #[.int .i64 n, sl], .int .i64 a, .int .i64 S] w fun e w' => e = .returned (.int .i64 (costN (bt xs) n S a : Nat)) ∧ Below w.heap.size w w' := by
  have HR := Lib.hid h
  obtain ⟨A, cA, rfl, -, -, -⟩ := h
  have hl := tour_len hp
  have HC := Lib.hid (cost_pop hp ha hS)
  have h8 : n ≤ 8 := by have := hp.1; omega
  have hS8 : S < 256 := Nat.lt_of_lt_of_le hS (pow_le h8)
  have hL8 : lossN xs a < 256 := Nat.lt_of_lt_of_le (less_lt (less_full_lt' xs.length _)) (pow_le (by omega))
  have hlt : S &&& lossN xs a < 256 := Nat.lt_of_le_of_lt Nat.and_le_left hS8
  have hand := i64_and_nat S (lossN xs a) (by omega) (by omega)
  have HP := Lib.hid hp
  have HL := Lib.hid hl
  clear hp hl hS
  go_enter Tryz.func43, Tryz.ntmps43
  go_wp2_with fail
  have b0 := below_alloc1 w (.cells #[.int .i64 n, .slice A xs.length cA] 25)
  have x0 := TBox.new w n (.slice A xs.length cA) 25
  generalize w.alloc (.cells #[.int .i64 n, .slice A xs.length cA] 25) = w0 at *
  have HX0 := Lib.hid x0
  have HB0 := Lib.hid b0
  clear x0 b0
  have y0_0 := HX0.out.1
  have y1_0 := HX0.out.2
  go_wp2_with fail
  refine (losses_any n _ xs a _ (HR.out.below HB0.out) HP.out (by rw [HL.out]; exact ha)).mono ?_
  rintro e w1 ⟨rfl, hb⟩
  have HB1 := Lib.hid (Below.then HB0.out hb)
  clear hb y0_0 y1_0 HX0 HB0
  generalize S &&& lossN xs a = x at *
  generalize lossN xs a = y at *
  go_wp2_with fail
  refine (ones_any x _ hlt).mono ?_
  rintro e w2 ⟨rfl, rfl⟩
  rw [HC.out]
  go_wp2
  go_ret
  exact ⟨rfl, HB1.out⟩
theorem below_makes (w : World) (Z : Array Value) (e : TypeId) : Below w.heap.size w ((w.drew.alloc (.cells Z e)).alloc (.cells Z e)) :=
  let b0 : Below w.heap.size w w.drew := (Below.refl _ _).drew
  (b0.alloc b0.size _).alloc (b0.alloc b0.size _).size _
theorem getD_repA (p T : Nat) : (List.replicate p (0 : Int)).getD T 0 = 0 := by
  rw [List.getD_eq_getElem?_getD, List.getElem?_replicate]
  split <;> rfl
theorem own_made (w : World) (base p : Nat) (hb : base ≤ w.heap.size) (hp : p ≤ 1048576) : Own (w.alloc (.cells (madeCells #[Value.int .i64 0] p) 3)) base (.slice (some ⟨w.heap.size, 0, none⟩) p p) (List.replicate p 0) := by
  have e : (madeCells #[Value.int .i64 0] p).toList = (List.replicate p (0 : Int)).map (Value.int .i64) := by
    have := ints_made' p
    rwa [Nat.mul_one] at this
  have hs : (madeCells #[Value.int .i64 0] p).size = p := by
    rw [← Array.length_toList, e, List.length_map, List.length_replicate]
  have := World.ownsRow_lit (e := 3) (size := 1) w (madeCells #[Value.int .i64 0] p) p hb (by unfold maxLen; omega) (by rw [hs]; omega)
  unfold Own
  rw [List.length_replicate, ← e]
  exact this
set_option maxHeartbeats 4000000 in
theorem cArr (hp : tourP n xs) (h : Rd w sl xs) : Calls Tryz.prog 35 #[.agg #[.int .i64 n, sl]] w fun e w' => ∃ (g1 g2 : Nat) (F M : List Int), e = .returned (.tuple #[.slice (some ⟨g1, 0, none⟩) (2 ^ n) (2 ^ n), .slice (some ⟨g2, 0, none⟩) (2 ^ n) (2 ^ n)]) ∧ arIs (bt xs) n (2 ^ n) F M ∧ Own w' w.heap.size (.slice (some ⟨g1, 0, none⟩) (2 ^ n) (2 ^ n)) F ∧ Own w' w.heap.size (.slice (some ⟨g2, 0, none⟩) (2 ^ n) (2 ^ n)) M ∧ Below w.heap.size w w' := by
  have HR := Lib.hid h
  obtain ⟨A, cA, rfl, -, -, -⟩ := h
  rw [tour_len hp] at *
  have HP := Lib.hid hp
  have h8 : n ≤ 8 := by have := hp.1; omega
  have HIR := Lib.hid (bt_irr hp)
  have hshl : wrap64 (2 ^ n) = ((2 ^ n : Nat) : Int) := shl_nat n (by omega)
  have hP8 := pow_le h8
  have hP1 := Nat.two_pow_pos n
  obtain ⟨p, hpe⟩ : ∃ p, p = 2 ^ n := ⟨_, rfl⟩
  have HPE := Lib.hid hpe
  rw [← hpe] at hshl hP8 hP1 ⊢
  have hshl2 : IntKind.i64.wrap (2 ^ n) = (p : Int) := by have := i64_shl_one n (by omega); rw [Int.one_mul] at this; rw [hpe]; exact this
  clear hp hpe
  have hmk : ∀ W : World, (Instr.makeSlice 23 (.int .i64 (p : Int)) (.int .i64 (p : Int))).run Tryz.prog W = .ok (.slice (some ⟨W.heap.size, 0, none⟩) p p) (W.alloc (.cells (madeCells #[.int .i64 0] p) 3)) := fun W => run_make_row' 23 3 (.int .i64 0) 8 Tryz.underlying23 i64_info rfl .i64 .i64 p (by omega) (by omega) W
  go_enter Tryz.func35, Tryz.ntmps35
  go_wp2_with fail
  have b0 := below_alloc1 w (.cells #[.int .i64 n, .slice A n cA] 25)
  have x0 := TBox.new w n (.slice A n cA) 25
  generalize w.alloc (.cells #[.int .i64 n, .slice A n cA] 25) = w0 at *
  have HX0 := Lib.hid x0
  have HB0 := Lib.hid b0
  clear x0 b0
  have y0_0 := HX0.out.1
  have y1_0 := HX0.out.2
  have HXD := Lib.hid (fun (W : World) (hW : Below w0.heap.size w0 W) => HX0.out.below hW)
  go_cut [4, 5] (fun t4 t5 wx => ∃ g1 g2 : Nat, t4 = .slice (some ⟨g1, 0, none⟩) p p ∧ t5 = .slice (some ⟨g2, 0, none⟩) p p ∧ g1 ≠ g2 ∧ w.heap.size < g1 ∧ w.heap.size < g2 ∧ Hid (Own wx w.heap.size (.slice (some ⟨g1, 0, none⟩) p p) (List.replicate p 0)) ∧ Hid (Own wx w.heap.size (.slice (some ⟨g2, 0, none⟩) p p) (List.replicate p 0)) ∧ Hid (TBox wx w.heap.size n (.slice A n cA)) ∧ Hid (Below w.heap.size w wx))
  case first =>
    have bD : Below w0.heap.size w0 w0 := Below.refl _ _
    have bE := bD.alloc bD.size (.cells (madeCells #[.int .i64 0] p) 3)
    have bF := (bE.alloc bE.size (.cells (madeCells #[.int .i64 0] p) 3)).drew
    have yd := (HXD.out _ bD.drew)
    have ye := (HXD.out _ bE)
    have hg0 : w.heap.size < w0.heap.size := World.block_lt_of_cell? _ _ HX0.out.1
    have oA := (own_made w0 w.heap.size p (by omega) (by omega)).alloc (.cells (madeCells #[.int .i64 0] p) 3)
    have oB := own_made (w0.alloc (.cells (madeCells #[.int .i64 0] p) 3)) w.heap.size p (by simp; omega) (by omega)
    simp only [World.size_alloc] at oA oB
    have oA' := Lib.hid (oA.below ((Below.refl _ _).drew))
    have oB' := Lib.hid (oB.below ((Below.refl _ _).drew))
    have xF' := HXD.out _ bF
    have xF := Lib.hid xF'
    have hBF := Lib.hid (Below.then HB0.out bF)
    have hd0 := yd.1
    have hd1 := yd.2
    have he0 := ye.1
    have he1 := ye.2
    have hf0 := xF'.1
    have hf1 := xF'.2
    have hlt1 : w.heap.size < w0.heap.size + 1 := by omega
    clear oA oB yd ye bD bE bF xF'
    go_region_held3 (fun W => W.cell? ⟨w.heap.size, 0, none⟩ = some (.int .i64 n) ∧ W.cell? ⟨w.heap.size, 1, none⟩ = some (.slice A n cA))
      (first | exact ⟨y0_0, y1_0⟩ | exact ⟨hd0, hd1⟩ | exact ⟨he0, he1⟩ | exact ⟨hf0, hf1⟩)
      (fail)
    all_goals
      go_wp2_with fail
      go_meet
      first
        | exact ⟨_, _, rfl, rfl, by omega, hg0, hlt1, oA', oB', xF, hBF⟩
        | exact ⟨_, _, rfl, rfl, by omega, hlt1, hg0, oB', oA', xF, hBF⟩
  case rest =>
    obtain ⟨g1, g2, rfl, rfl, hg12, hwg1, hwg2, HF, HM, HX, HB⟩ := hcut
    have HCST : Hid (∀ (W : World) (a S : Nat), a < n → S < 2 ^ n → Below w.heap.size w W → Calls Tryz.prog 43 #[.agg #[.int .i64 n, .slice A n cA], .int .i64 a, .int .i64 S] W fun e w' => e = .returned (.int .i64 (costN (bt xs) n S a : Nat)) ∧ Below W.heap.size W w') := Lib.hid fun W a S ha hS hW => cCost HP.out (HR.out.below hW) ha hS
    clear HXD HX0 HB0 HP hshl hshl2 hmk y0_0 y1_0 HR
    have hlz : (List.replicate p (0 : Int)).length = p := List.length_replicate
    obtain ⟨hcm, hfm⟩ := HM.out.at0 hlz hP1
    have z0 := hcm 0 hP1
    have f0 := hfm 0
    have e0 : (List.replicate p (0 : Int)).getD 0 0 = 0 := by
      obtain ⟨q, rfl⟩ : ∃ q, p = q + 1 := ⟨p - 1, by omega⟩
      rfl
    rw [e0] at z0
    obtain ⟨o2, gr2⟩ := HM.out.set_ hlz 0 1
    have hS1 := HF.out.kept gr2 (by right; simp [Value.ownBlock]; exact hg12)
    have HM1 := Lib.hid o2
    have HF1 := Lib.hid hS1
    have HX1 := Lib.hid (HX.out.kept gr2 (by simp; omega))
    have HB1 := Lib.hid (HB.out.setCell (p := ⟨g2, 0, none⟩) (by exact Nat.le_of_lt hwg2) (.int .i64 1))
    clear o2 hS1 gr2 HM HF HX HB hcm hfm
    go_wp2
    have hA1 : arIs (bt xs) n 1 (List.replicate p 0) ((List.replicate p 0).set 0 1) := by
      refine ⟨by rw [hlz, HPE.out], by rw [List.length_set, hlz, HPE.out], fun T hT => ?_, fun T hT => ?_⟩
      · obtain rfl : T = 0 := by omega
        rw [arT_zero, getD_set_eq' _ (by rw [hlz]; exact hP1)]
        exact ⟨e0, rfl⟩
      · rw [getD_set_ne' _ (by omega : 0 ≠ T)]
        exact getD_repA p T
    have HA1 := Lib.hid hA1
    clear hA1 hlz e0 z0 f0
    go_loopw [6] (fun t6 wr => ∃ (S : Nat) (F M : List Int), 1 ≤ S ∧ S ≤ p ∧ t6 = .int .i64 S ∧ Hid (arIs (bt xs) n S F M) ∧ Hid (Own wr w.heap.size (.slice (some ⟨g1, 0, none⟩) p p) F) ∧ Hid (Own wr w.heap.size (.slice (some ⟨g2, 0, none⟩) p p) M) ∧ Hid (TBox wr w.heap.size n (.slice A n cA)) ∧ Hid (Below w.heap.size w wr)) (fun t6 _ => p - (intOf t6).toNat)
    case atStart => exact ⟨1, _, _, by omega, by omega, rfl, HA1, HF1, HM1, HX1, HB1⟩
    case round =>
      obtain ⟨wa, rfl⟩ : ∃ x, x = wr := ⟨_, rfl⟩
      obtain ⟨S, F, M, hS1, hSp, rfl, HA, HF, HM, HX, HB⟩ := hrel
      clear HA1 HF1 HM1 HX1 HB1
      by_cases hlt : S < p
      · as_aux_lemma =>
        have hS : S < 2 ^ n := by rw [← HPE.out]; exact hlt
        have hFl : F.length = p := by rw [HPE.out]; exact HA.out.1
        obtain ⟨hcf, hff⟩ := HF.out.at0 hFl hP1
        have zf := hcf S hlt
        have ff := hff S
        obtain ⟨o1, gr1⟩ := HF.out.set_ hFl S (-1)
        have HF1 := Lib.hid o1
        have HM1 := Lib.hid (HM.out.kept gr1 (by right; simp [Value.ownBlock]; exact fun e => hg12 e.symm))
        have HX1 := Lib.hid (HX.out.kept gr1 (by simp; omega))
        have HB1 := Lib.hid (HB.out.setCell (p := ⟨g1, S, none⟩) (by exact Nat.le_of_lt hwg1) (.int .i64 (-1)))
        have HN1 := Lib.hid (arIn_start HA.out hS)
        clear o1 gr1 HF HM HX HB HA hcf hff
        have hSn60 := hS
        go_wp2_with fail
        generalize wa.setCell ⟨g1, S, none⟩ (.int .i64 (-1)) = wb at *
        generalize F.set S (-1) = F1 at *
        refine (membersOf_any S n wb hS (by omega)).mono ?_
        rintro e w2 ⟨v, rfl, ho, hb2⟩
        obtain ⟨B, d, rfl, hd1, hd2, -⟩ := memL_cells ho
        unfold maxLen at hd1
        have HV2 := Lib.hid ho
        have hb1s : g1 < wb.heap.size ∧ g2 < wb.heap.size := ⟨(HF1.out.lt g1 rfl).2, (HM1.out.lt g2 rfl).2⟩
        have HF2 := Lib.hid (HF1.out.below hb2)
        have HM2 := Lib.hid (HM1.out.below hb2)
        have HX2 := Lib.hid (HX1.out.below hb2)
        have HB2 := Lib.hid (Below.then HB1.out hb2)
        have hm8 := memN_len S n
        have HLT := Lib.hid (fun k (hk : k < (memN S n).length) => show (memN S n).getD k 0 ∈ memN S n from by rw [getD_nat hk]; exact List.getElem_mem hk)
        have hb60 : wb.heap.size ≤ w2.heap.size := hb2.size
        clear hb2 ho HF1 HM1 HX1 HB1 zf ff
        generalize hLn : (memN S n).length = m at *
        have HLN := Lib.hid hLn
        clear hLn
        go_wp2
        go_loopw [33] (fun t33 wr => ∃ (k : Nat) (F M : List Int), k ≤ m ∧ t33 = .int .i64 k ∧ Hid (arIn (bt xs) n S k F M) ∧ Hid (Own wr w.heap.size (.slice (some ⟨g1, 0, none⟩) p p) F) ∧ Hid (Own wr w.heap.size (.slice (some ⟨g2, 0, none⟩) p p) M) ∧ Hid (Own wr wb.heap.size (.slice B m d) (memL S n)) ∧ Hid (TBox wr w.heap.size n (.slice A n cA)) ∧ Hid (Below w.heap.size w wr)) (fun t33 _ => m - (intOf t33).toNat)
        case atStart => exact ⟨0, F1, M, by omega, rfl, HN1, HF2, HM2, HV2, HX2, HB2⟩
        case round =>
          obtain ⟨wk, rfl⟩ : ∃ x, x = wr := ⟨_, rfl⟩
          obtain ⟨k, F, M, hk, rfl, HN, HF, HM, HV, HX, HB⟩ := hrel
          clear HN1 HF2 HM2 HV2 HX2 HB2
          by_cases hltk : k < m
          · as_aux_lemma =>
            have hkl : k < (memN S n).length := by rw [HLN.out]; exact hltk
            have hmem := HLT.out k hltk
            have ha := (mem_memN.1 hmem).1
            have hS60 : S < 2 ^ 62 := Nat.lt_of_lt_of_le hlt (Nat.le_trans hP8 (by decide))
            have hRS := less_small hS60 (by omega) hmem
            have hFl : F.length = p := by rw [HPE.out]; exact HN.out.1
            have hMl : M.length = p := by rw [HPE.out]; exact HN.out.2.1
            have hand := andNot_shl S ((memN S n).getD k 0) (by omega) (by omega)
            have hval := HN.out.2.2.1 _ hRS
            have hfs := HN.out.2.2.2.2.1
            have hms := HN.out.2.2.2.2.2
            have hbR := arT_bound (r := bt xs) (S := less S (2 ^ (memN S n).getD k 0)) HIR.out h8 (less_lt hS)
            have hbF := arF_bound (r := bt xs) (S := S) h8 (fun a => arT_bound (r := bt xs) (S := less S (2 ^ a)) HIR.out h8 (less_lt hS)) k (by omega)
            have hmq : k * 16777216 ≤ 134217728 := by
              have : k ≤ 8 := by omega
              omega
            have hc8 : costN (bt xs) n S ((memN S n).getD k 0) ≤ 8 := Nat.le_trans List.countP_le_length (Nat.le_trans (memN_len S n) h8)
            have HST := Lib.hid (arF_cases (r := bt xs) hkl rfl rfl)
            have k1 := quiet_below (w := wk) (fun W hW => HCST.out W ((memN S n).getD k 0) S ha hS (Below.then HB.out hW))
            have hVl : (memL S n).length = m := by rw [← HLN.out]; unfold memL; rw [List.length_map]
            obtain ⟨gv, cv, ev, -, -, -, hxv, -⟩ := HV.out.at_ hVl (by omega)
            injection ev with ev1 ev2 ev3
            subst ev1 ev3
            have zv := hxv k hltk
            rw [memL_at hkl, ← getD_nat hkl] at zv
            obtain ⟨hcf, hff⟩ := HF.out.at0 hFl hP1
            obtain ⟨hcm, hfm⟩ := HM.out.at0 hMl hP1
            have zr := hcf _ (Nat.lt_trans hRS hlt)
            rw [hval.1] at zr
            have hvm := hval.2
            clear hxv hcf hff hcm hfm hval hmem
            generalize (memN S n).getD k 0 = a at *
            generalize less S (2 ^ a) = R at *
            generalize costN (bt xs) n S a = C at *
            generalize hUe : arF (bt xs) n S (k + 1) = U at *
            have HUE := Lib.hid hUe
            clear hUe
            generalize arT (bt xs) n R = V at *
            generalize hTe : arF (bt xs) n S k = T at *
            have HTE := Lib.hid hTe
            clear hTe
            obtain ⟨V1, V2⟩ := V
            obtain ⟨T1, T2⟩ := T
            simp only at *
            have y0_0 := HX.out.1
            have y1_0 := HX.out.2
            have c0 := cell_regrown zr
            have hVb : (V2 : Int) ≤ 16777216 := by omega
            have hTb : (T2 : Int) ≤ 134217728 := by omega
            have HFl := Lib.hid hFl
            have HMl := Lib.hid hMl
            have HVV := Lib.hid (show V2 ≤ 16777216 from hbR.2.2)
            go_wp2_with fail
            have y0_q := cell_regrown y0_0
            have y1_q := cell_regrown y1_0
            clear y0_0 y1_0
            refine wp_region_below (by kernel_rfl) (by kernel_rfl) ?_
            repeat (go_big_quiet_step (first | (with_reducible exact k1 _ _)))
            refine wpQuiet_nil ?_
            intro wq hbq0
            have hbq := Lib.hid hbq0
            clear hbq0
            clear y0_q y1_q
            have HF2 := Lib.hid (HF.out.below hbq.out)
            have HM2 := Lib.hid (HM.out.below hbq.out)
            have HV2 := Lib.hid (HV.out.below hbq.out)
            have HX2 := Lib.hid (HX.out.below hbq.out)
            have HB2 := Lib.hid (Below.then HB.out hbq.out)
            obtain ⟨hcf, hff⟩ := HF2.out.at0 HFl.out hP1
            obtain ⟨hcm, hfm⟩ := HM2.out.at0 HMl.out hP1
            have zs := hcf S hlt
            rw [hfs] at zs
            have fs := hff S
            clear hcf hff k1 c0 zr zv HF HM HV HX HB hbq
            by_cases h1 : T1 < 0 ∨ (C : Int) + V1 < T1
            · as_aux_lemma =>
              have HUU : Hid (U = ((C : Int) + V1, V2)) := by unfold Hid; exact HST.out.1 h1
              have zmr := hcm R (by omega)
              rw [hvm] at zmr
              have zms := hcm S hlt
              have fms := hfm S
              obtain ⟨o3, gr3⟩ := HF2.out.set_ HFl.out S ((C : Int) + V1)
              have HM3 := Lib.hid (HM2.out.kept gr3 (by right; simp [Value.ownBlock]; exact fun e => hg12 e.symm))
              obtain ⟨o4, gr4⟩ := HM3.out.set_ HMl.out S (V2 : Int)
              have HF4 := Lib.hid (o3.kept gr4 (by right; simp [Value.ownBlock]; exact hg12))
              have HM4 := Lib.hid o4
              have HX4 := Lib.hid ((HX2.out.kept gr3 (by simp; omega)).kept gr4 (by simp; omega))
              have HB4 := Lib.hid ((HB2.out.setCell (p := ⟨g1, S, none⟩) (by exact Nat.le_of_lt hwg1) (.int .i64 ((C : Int) + V1))).setCell (p := ⟨g2, S, none⟩) (by exact Nat.le_of_lt hwg2) (.int .i64 (V2 : Int)))
              have HV4 := Lib.hid ((HV2.out.kept gr3 (own_ne (fun k hk => (HV2.out.lt k hk).1) hb1s.1)).kept gr4 (own_ne (fun k hk => (HV2.out.lt k hk).1) hb1s.2))
              have HN4 := Lib.hid (arIn_both HN.out hS (HUE.out.trans HUU.out))
              have zms3 := ((HM3.out.at0 HMl.out hP1).1 S hlt)
              have fms3 := ((HM3.out.at0 HMl.out hP1).2 S)
              clear o3 o4 gr3 gr4 hcm hfm HF2 HM2 HV2 HX2 HB2 HM3
              rcases h1 with h1 | h1
              · have d1 : decide (T1 < 0) = true := by simpa using h1
                go_wp2
                go_roundw
                case rel => exact ⟨k + 1, _, _, by omega, by go_num, HN4, HF4, HM4, HV4, HX4, HB4⟩
                case measure => simp [intOf]; omega
              · rcases d0 : decide (T1 < 0) with _ | _
                · have d1 : decide ((C : Int) + V1 < T1) = true := by simpa using h1
                  go_wp2
                  go_roundw
                  case rel => exact ⟨k + 1, _, _, by omega, by go_num, HN4, HF4, HM4, HV4, HX4, HB4⟩
                  case measure => simp [intOf]; omega
                · go_wp2
                  go_roundw
                  case rel => exact ⟨k + 1, _, _, by omega, by go_num, HN4, HF4, HM4, HV4, HX4, HB4⟩
                  case measure => simp [intOf]; omega
            · as_aux_lemma =>
              have h1a : ¬ T1 < 0 := fun h => h1 (.inl h)
              have h1b : ¬ (C : Int) + V1 < T1 := fun h => h1 (.inr h)
              have d1 : decide (T1 < 0) = false := by simpa using h1a
              have d2 : decide ((C : Int) + V1 < T1) = false := by simpa using h1b
              by_cases h2 : (C : Int) + V1 = T1
              · as_aux_lemma =>
                have HUU : Hid (U = (T1, T2 + V2)) := by unfold Hid; exact HST.out.2.1 h1 h2
                have d3 : ((C : Int) + V1 == T1) = true := by simpa using h2
                have zmr := hcm R (by omega)
                rw [hvm] at zmr
                have zms := hcm S hlt
                rw [hms] at zms
                go_wp2_with fail
                have c0 := cell_regrown zmr
                have c1 := cell_regrown zms
                refine wp_region_below_tail 10 (by kernel_rfl) (by kernel_rfl) ?_
                simp only [List.take_succ_cons, List.take_zero, List.drop_succ_cons, List.drop_zero]
                repeat (go_big_quiet_step (first | (with_reducible fail)))
                refine wpQuiet_nil ?_
                intro wq hbq0
                have hbq := Lib.hid hbq0
                clear hbq0
                clear c0 c1
                have HM3 := Lib.hid (HM2.out.below hbq.out)
                have zms3 := ((HM3.out.at0 HMl.out hP1).1 S hlt)
                have fms3 := ((HM3.out.at0 HMl.out hP1).2 S)
                obtain ⟨o4, gr4⟩ := HM3.out.set_ HMl.out S ((T2 + V2 : Nat) : Int)
                have HF4 := Lib.hid ((HF2.out.below hbq.out).kept gr4 (by right; simp [Value.ownBlock]; exact hg12))
                have HM4 := Lib.hid o4
                have HX4 := Lib.hid ((HX2.out.below hbq.out).kept gr4 (by simp; omega))
                have HB4 := Lib.hid ((Below.then HB2.out hbq.out).setCell (p := ⟨g2, S, none⟩) (by exact Nat.le_of_lt hwg2) (.int .i64 ((T2 + V2 : Nat) : Int)))
                have HV4 := Lib.hid ((HV2.out.below hbq.out).kept gr4 (own_ne (fun k hk => (HV2.out.lt k hk).1) hb1s.2))
                have HN4 := Lib.hid (arIn_more HN.out hS (by rw [HTE.out]; exact HUE.out.trans HUU.out))
                have hsum : wrap64 ((T2 : Int) + (V2 : Int)) = ((T2 + V2 : Nat) : Int) := by rw [IntWalk.wrap64_in _ (by omega)]; omega
                clear o4 gr4 hcm hfm HF2 HM2 HV2 HX2 HB2 HM3
                go_wp2
                go_roundw
                case rel => exact ⟨k + 1, _, _, by omega, by go_num, HN4, HF4, HM4, HV4, HX4, HB4⟩
                case measure => simp [intOf]; omega
              · as_aux_lemma =>
                have HUU : Hid (U = (T1, T2)) := by unfold Hid; exact HST.out.2.2 h1 h2
                have d3 : ((C : Int) + V1 == T1) = false := by simpa using h2
                have HN4 := Lib.hid (arIn_keep HN.out (by rw [HTE.out]; exact HUE.out.trans HUU.out))
                go_wp2
                go_roundw
                case rel => exact ⟨k + 1, F, M, by omega, by go_num, HN4, HF2, HM2, HV2, HX2, HB2⟩
                case measure => simp [intOf]; omega
          · as_aux_lemma =>
            obtain rfl : k = m := by omega
            have HD := Lib.hid (arIn_done (by rw [HLN.out]; exact HN.out) hS (by omega))
            go_wp2
            go_roundw
            case rel => exact ⟨S + 1, F, M, by omega, by omega, by go_num, HD, HF, HM, HX, HB⟩
            case measure => simp [intOf]; omega
      · as_aux_lemma =>
        obtain rfl : S = p := by omega
        go_wp2
        go_ret2
        exact ⟨g1, g2, F, M, rfl, HA.out, HF.out, HM.out, HB.out⟩
end Go.Proofs.YtbkiedhaacapbaaGreat

