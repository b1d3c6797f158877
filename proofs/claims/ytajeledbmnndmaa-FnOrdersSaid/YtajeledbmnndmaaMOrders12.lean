/- Texts put together: OrA, Perm, OrC, HeldT, HTk, TrF. -/
import Derived.Test.YtajeledbmnndmaaMOrders11
import Derived.Test.YtajeledbmnndmaaMOrders02
import Derived.Deep.RegionHeld3
import Derived.Deep.DeepCutAuto
import Derived.Deep.OwnRows
import Derived.Test.YtajeledbmnndmaaMOrders08
import Derived.Test.YtajeledbmnndmaaMOrders01
import Derived.Test.YtajeledbmnndmaaMOrders06
namespace Go.Proofs.Ytajeledbmnndmaa
open Go.RowKit Go.Sort
set_option maxRecDepth 100000
theorem bt_irr {xs : List Int} {n : Nat} (hp : tourP n xs) (a : Nat) : bt xs a a = false := by
  by_cases ha : a < xs.length
  · exact (tour_bits hp).2.1 a ha
  · unfold bt winsN
    rw [List.getD_eq_getElem?_getD, List.getElem?_eq_none (by omega)]
    simp
theorem cost_pop {xs : List Int} {n S a : Nat} (hp : tourP n xs) (ha : a < n) (hS : S < 2 ^ n) : popN 8 (S &&& lossN xs a) = costN (bt xs) n S a := by
  have hl := tour_len hp
  have h8 : n ≤ 8 := by have := hp.1; omega
  have hlt : S &&& lossN xs a < 256 := Nat.lt_of_le_of_lt Nat.and_le_left (Nat.lt_of_lt_of_le hS (pow_le h8))
  rw [pop_mem hlt]
  have e8 : memN (S &&& lossN xs a) 8 = memN (S &&& lossN xs a) n := by
    have : (S &&& lossN xs a) / 2 ^ n = 0 := Nat.div_eq_of_lt (Nat.lt_of_le_of_lt Nat.and_le_left hS)
    rw [memN_top h8 this]
  rw [e8]
  unfold costN
  have e1 : memN (S &&& lossN xs a) n = (memN S n).filter fun b => (lossN xs a).testBit b := by
    unfold memN
    rw [List.filter_filter]
    refine List.filter_congr fun b _ => ?_
    rw [Nat.testBit_and, Bool.and_comm]
  rw [e1, ← List.countP_eq_length_filter]
  refine List.countP_congr fun b hb => ?_
  have hbn := (mem_memN.1 hb).1
  have h1 : b ∈ memN (lossN xs a) xs.length ↔ b ∈ loseN xs a xs.length := by rw [loss_list hp (by rw [hl]; exact ha)]
  obtain ⟨T, e, -⟩ := (tour_bits hp).1 b (by rw [hl]; exact hbn)
  rw [mem_memN, hl] at h1
  unfold loseN at h1
  rw [List.mem_filter, List.mem_range, bitI_bt e] at h1
  simp only [hbn, true_and] at h1
  exact h1
/-- the rows of the table, as far as they stand -/
def arF (r : Nat → Nat → Bool) (n S k : Nat) : Int × Nat := ((memN S n).take k).foldl (arStp (fun a => (costN r n S a : Int) + (arT r n (less S (2 ^ a))).1) (fun a => (arT r n (less S (2 ^ a))).2)) (-1, 0)
def arIs (r : Nat → Nat → Bool) (n S : Nat) (F M : List Int) : Prop :=
  F.length = 2 ^ n ∧ M.length = 2 ^ n ∧ (∀ T, T < S → F.getD T 0 = (arT r n T).1 ∧ M.getD T 0 = ((arT r n T).2 : Int)) ∧ ∀ T, S ≤ T → M.getD T 0 = 0
def arIn (r : Nat → Nat → Bool) (n S k : Nat) (F M : List Int) : Prop :=
  F.length = 2 ^ n ∧ M.length = 2 ^ n ∧ (∀ T, T < S → F.getD T 0 = (arT r n T).1 ∧ M.getD T 0 = ((arT r n T).2 : Int)) ∧ (∀ T, S < T → M.getD T 0 = 0) ∧ F.getD S 0 = (arF r n S k).1 ∧ M.getD S 0 = ((arF r n S k).2 : Int)
theorem arIn_start {r : Nat → Nat → Bool} {n S : Nat} {F M : List Int} (h : arIs r n S F M) (hS : S < 2 ^ n) : arIn r n S 0 (F.set S (-1)) M := by
  obtain ⟨h1, h2, h3, h4⟩ := h
  refine ⟨by rw [List.length_set]; exact h1, h2, fun T hT => ?_, fun T hT => h4 T (by omega), ?_, ?_⟩
  · rw [getD_set_ne' _ (by omega : S ≠ T)]; exact h3 T hT
  · rw [getD_set_eq' _ (by omega)]; rfl
  · rw [h4 S (Nat.le_refl _)]; rfl
theorem arF_succ {r : Nat → Nat → Bool} {n S k : Nat} (hk : k < (memN S n).length) : arF r n S (k + 1) = arStp (fun a => (costN r n S a : Int) + (arT r n (less S (2 ^ a))).1) (fun a => (arT r n (less S (2 ^ a))).2) (arF r n S k) ((memN S n).getD k 0) := by
  unfold arF
  rw [take_snocN hk, List.foldl_append, getD_nat hk]
  rfl
theorem arF_cases {r : Nat → Nat → Bool} {n S k : Nat} (hk : k < (memN S n).length) {a : Nat} (ea : (memN S n).getD k 0 = a) {R : Nat} (eR : less S (2 ^ a) = R) :
    (((arF r n S k).1 < 0 ∨ (costN r n S a : Int) + (arT r n R).1 < (arF r n S k).1) → arF r n S (k + 1) = ((costN r n S a : Int) + (arT r n R).1, (arT r n R).2)) ∧
    (¬ ((arF r n S k).1 < 0 ∨ (costN r n S a : Int) + (arT r n R).1 < (arF r n S k).1) → (costN r n S a : Int) + (arT r n R).1 = (arF r n S k).1 → arF r n S (k + 1) = ((arF r n S k).1, (arF r n S k).2 + (arT r n R).2)) ∧
    (¬ ((arF r n S k).1 < 0 ∨ (costN r n S a : Int) + (arT r n R).1 < (arF r n S k).1) → ¬ (costN r n S a : Int) + (arT r n R).1 = (arF r n S k).1 → arF r n S (k + 1) = arF r n S k) := by
  subst ea eR
  rw [arF_succ hk]
  unfold arStp
  exact ⟨fun h => if_pos h, fun h h2 => by rw [if_neg h]; exact if_pos h2, fun h h2 => by rw [if_neg h]; exact if_neg h2⟩
theorem less_small {n S a : Nat} (hS : S < 2 ^ 62) (ha : a ≤ 61) (h : a ∈ memN S n) : less S (2 ^ a) < S := by
  have hb := (mem_memN.1 h).2
  rw [← sub_less hS ha hb]
  have := Nat.two_pow_pos a
  have := Nat.ge_two_pow_of_testBit hb
  omega
theorem arF_full {r : Nat → Nat → Bool} {n S : Nat} (hS : S < 2 ^ n) (h0 : S ≠ 0) : arF r n S (memN S n).length = arT r n S := by
  unfold arF
  rw [List.take_length, arT_eq hS h0]
theorem arIn_done {r : Nat → Nat → Bool} {n S : Nat} {F M : List Int} (h : arIn r n S (memN S n).length F M) (hS : S < 2 ^ n) (h0 : S ≠ 0) : arIs r n (S + 1) F M := by
  obtain ⟨h1, h2, h3, h4, h5, h6⟩ := h
  refine ⟨h1, h2, fun T hT => ?_, fun T hT => h4 T (by omega)⟩
  by_cases e : T = S
  · subst e
    rw [arF_full hS h0] at h5 h6
    exact ⟨h5, h6⟩
  · exact h3 T (by omega)
theorem arIn_keep {r : Nat → Nat → Bool} {n S k : Nat} {F M : List Int} (h : arIn r n S k F M) (he : arF r n S (k + 1) = arF r n S k) : arIn r n S (k + 1) F M := by
  obtain ⟨h1, h2, h3, h4, h5, h6⟩ := h
  exact ⟨h1, h2, h3, h4, by rw [he]; exact h5, by rw [he]; exact h6⟩
theorem arIn_both {r : Nat → Nat → Bool} {n S k : Nat} {F M : List Int} (h : arIn r n S k F M) (hS : S < 2 ^ n) {c : Int} {m : Nat} (he : arF r n S (k + 1) = (c, m)) : arIn r n S (k + 1) (F.set S c) (M.set S m) := by
  obtain ⟨h1, h2, h3, h4, h5, h6⟩ := h
  refine ⟨by rw [List.length_set]; exact h1, by rw [List.length_set]; exact h2, fun T hT => ?_, fun T hT => ?_, ?_, ?_⟩
  · rw [getD_set_ne' _ (by omega : S ≠ T), getD_set_ne' _ (by omega : S ≠ T)]; exact h3 T hT
  · rw [getD_set_ne' _ (by omega : S ≠ T)]; exact h4 T hT
  · rw [getD_set_eq' _ (by omega), he]
  · rw [getD_set_eq' _ (by omega), he]
theorem arIn_more {r : Nat → Nat → Bool} {n S k : Nat} {F M : List Int} (h : arIn r n S k F M) (hS : S < 2 ^ n) {m : Nat} (he : arF r n S (k + 1) = ((arF r n S k).1, m)) : arIn r n S (k + 1) F (M.set S m) := by
  obtain ⟨h1, h2, h3, h4, h5, h6⟩ := h
  refine ⟨h1, by rw [List.length_set]; exact h2, fun T hT => ?_, fun T hT => ?_, by rw [he]; exact h5, ?_⟩
  · rw [getD_set_ne' _ (by omega : S ≠ T)]; exact h3 T hT
  · rw [getD_set_ne' _ (by omega : S ≠ T)]; exact h4 T hT
  · rw [getD_set_eq' _ (by omega), he]
theorem arF_bound {r : Nat → Nat → Bool} {n S B : Nat} (hn : n ≤ 8) (hB : ∀ a, 0 ≤ (arT r n (less S (2 ^ a))).1 ∧ (arT r n (less S (2 ^ a))).1 ≤ 64 ∧ (arT r n (less S (2 ^ a))).2 ≤ B) : ∀ k, k ≤ (memN S n).length → -1 ≤ (arF r n S k).1 ∧ (arF r n S k).1 ≤ 72 ∧ (arF r n S k).2 ≤ k * B := by
  intro k
  induction k with
  | zero => intro _; unfold arF; exact ⟨by simp, by simp, by simp⟩
  | succ k ih =>
    intro hk
    obtain ⟨i1, i2, i3⟩ := ih (by omega)
    rw [arF_succ (by omega), Nat.succ_mul]
    generalize (memN S n).getD k 0 = a
    obtain ⟨b1, b2, b3⟩ := hB a
    have hc : costN r n S a ≤ 8 := Nat.le_trans List.countP_le_length (Nat.le_trans (memN_len S n) hn)
    unfold arStp
    generalize arF r n S k = z at *
    obtain ⟨z1, z2⟩ := z
    simp only at *
    generalize k * B = q at *
    split
    · exact ⟨by simp only; omega, by simp only; omega, by simp only; omega⟩
    · split
      · exact ⟨i1, i2, by simp only; omega⟩
      · exact ⟨i1, i2, by simp only; omega⟩
variable {n : Nat} {sl : Value} {xs : List Int} {w : World}
set_option maxHeartbeats 1000000 in
theorem cCost (hp : tourP n xs) (h : Rd w sl xs) {a S : Nat} (ha : a < n) (hS : S < 2 ^ n) : Calls Try.prog 107 #[.agg #[.int .i64 n, sl], .int .i64 a, .int .i64 S] w fun e w' => e = .returned (.int .i64 (costN (bt xs) n S a : Nat)) ∧ Below w.heap.size w w' := by
  have HR := Lib.hid h
  obtain ⟨A, cA, rfl, -, -, -⟩ := h
  have hl := tour_len hp
  have HC := Lib.hid (cost_pop hp ha hS)
  have h8 : n ≤ 8 := by have := hp.1; omega
  have hS8 : S < 256 := Nat.lt_of_lt_of_le hS (pow_le h8)
  have hL8 : lossN xs a < 256 := Nat.lt_of_lt_of_le (less_lt (less_full_lt' xs.length _)) (pow_le (by omega))
  have hlt : S &&& lossN xs a < 256 := Nat.lt_of_le_of_lt Nat.and_le_left hS8
  have hand := i64_and_nat S (lossN xs a) (by omega) (by omega)
  have HP := Lib.hid hp
  have HL := Lib.hid hl
  clear hp hl hS
  go_enter Try.func107, Try.ntmps107
  go_wp2_with fail
  have b0 := below_alloc1 w (.cells #[.int .i64 n, .slice A xs.length cA] 28)
  have x0 := TBox.new w n (.slice A xs.length cA) 28
  generalize w.alloc (.cells #[.int .i64 n, .slice A xs.length cA] 28) = w0 at *
  have HX0 := Lib.hid x0
  have HB0 := Lib.hid b0
  clear x0 b0
  have y0_0 := HX0.out.1
  have y1_0 := HX0.out.2
  go_wp2_with fail
  refine (losses_any n _ xs a _ (HR.out.below HB0.out) HP.out (by rw [HL.out]; exact ha)).mono ?_
  rintro e w1 ⟨rfl, hb⟩
  have HB1 := Lib.hid (Below.then HB0.out hb)
  clear hb y0_0 y1_0 HX0 HB0
  generalize S &&& lossN xs a = x at *
  generalize lossN xs a = y at *
  go_wp2_with fail
  refine (ones_any x _ hlt).mono ?_
  rintro e w2 ⟨rfl, rfl⟩
  rw [HC.out]
  go_wp2
  go_ret
  exact ⟨rfl, HB1.out⟩
theorem below_makes (w : World) (Z : Array Value) (e : TypeId) : Below w.heap.size w ((w.drew.alloc (.cells Z e)).alloc (.cells Z e)) :=
  let b0 : Below w.heap.size w w.drew := (Below.refl _ _).drew
  (b0.alloc b0.size _).alloc (b0.alloc b0.size _).size _
theorem getD_rep (p T : Nat) : (List.replicate p (0 : Int)).getD T 0 = 0 := by
  rw [List.getD_eq_getElem?_getD, List.getElem?_replicate]
  split <;> rfl
theorem own_made (w : World) (base p : Nat) (hb : base ≤ w.heap.size) (hp : p ≤ 1048576) : Own (w.alloc (.cells (madeCells #[Value.int .i64 0] p) 3)) base (.slice (some ⟨w.heap.size, 0, none⟩) p p) (List.replicate p 0) := by
  have e : (madeCells #[Value.int .i64 0] p).toList = (List.replicate p (0 : Int)).map (Value.int .i64) := by
    have := ints_made' p
    rwa [Nat.mul_one] at this
  have hs : (madeCells #[Value.int .i64 0] p).size = p := by
    rw [← Array.length_toList, e, List.length_map, List.length_replicate]
  have := World.ownsRow_lit (e := 3) (size := 1) w (madeCells #[Value.int .i64 0] p) p hb (by unfold maxLen; omega) (by rw [hs]; omega)
  unfold Own
  rw [List.length_replicate, ← e]
  exact this
set_option maxHeartbeats 4000000 in
theorem cArr (hp : tourP n xs) (h : Rd w sl xs) : Calls Try.prog 106 #[.agg #[.int .i64 n, sl]] w fun e w' => ∃ (g1 g2 : Nat) (F M : List Int), e = .returned (.tuple #[.slice (some ⟨g1, 0, none⟩) (2 ^ n) (2 ^ n), .slice (some ⟨g2, 0, none⟩) (2 ^ n) (2 ^ n)]) ∧ arIs (bt xs) n (2 ^ n) F M ∧ Own w' w.heap.size (.slice (some ⟨g1, 0, none⟩) (2 ^ n) (2 ^ n)) F ∧ Own w' w.heap.size (.slice (some ⟨g2, 0, none⟩) (2 ^ n) (2 ^ n)) M ∧ Below w.heap.size w w' := by
  have HR := Lib.hid h
  obtain ⟨A, cA, rfl, -, -, -⟩ := h
  rw [tour_len hp] at *
  have HP := Lib.hid hp
  have h8 : n ≤ 8 := by have := hp.1; omega
  have HIR := Lib.hid (bt_irr hp)
  have hshl : wrap64 (2 ^ n) = ((2 ^ n : Nat) : Int) := shl_nat n (by omega)
  have hP8 := pow_le h8
  have hP1 := Nat.two_pow_pos n
  obtain ⟨p, hpe⟩ : ∃ p, p = 2 ^ n := ⟨_, rfl⟩
  have HPE := Lib.hid hpe
  rw [← hpe] at hshl hP8 hP1 ⊢
  have hshl2 : IntKind.i64.wrap (2 ^ n) = (p : Int) := by have := i64_shl_one n (by omega); rw [Int.one_mul] at this; rw [hpe]; exact this
  clear hp hpe
  have hmk : ∀ W : World, (Instr.makeSlice 22 (.int .i64 (p : Int)) (.int .i64 (p : Int))).run Try.prog W = .ok (.slice (some ⟨W.heap.size, 0, none⟩) p p) (W.alloc (.cells (madeCells #[.int .i64 0] p) 3)) := fun W => run_make_row' 22 3 (.int .i64 0) 8 Try.underlying22 i64_info rfl .i64 .i64 p (by omega) (by omega) W
  go_enter Try.func106, Try.ntmps106
  go_wp2_with fail
  have b0 := below_alloc1 w (.cells #[.int .i64 n, .slice A n cA] 28)
  have x0 := TBox.new w n (.slice A n cA) 28
  generalize w.alloc (.cells #[.int .i64 n, .slice A n cA] 28) = w0 at *
  have HX0 := Lib.hid x0
  have HB0 := Lib.hid b0
  clear x0 b0
  have y0_0 := HX0.out.1
  have y1_0 := HX0.out.2
  have HXD := Lib.hid (fun (W : World) (hW : Below w0.heap.size w0 W) => HX0.out.below hW)
  go_cut [4, 5] (fun t4 t5 wx => ∃ g1 g2 : Nat, t4 = .slice (some ⟨g1, 0, none⟩) p p ∧ t5 = .slice (some ⟨g2, 0, none⟩) p p ∧ g1 ≠ g2 ∧ w.heap.size < g1 ∧ w.heap.size < g2 ∧ Hid (Own wx w.heap.size (.slice (some ⟨g1, 0, none⟩) p p) (List.replicate p 0)) ∧ Hid (Own wx w.heap.size (.slice (some ⟨g2, 0, none⟩) p p) (List.replicate p 0)) ∧ Hid (TBox wx w.heap.size n (.slice A n cA)) ∧ Hid (Below w.heap.size w wx))
  case first =>
    have bD : Below w0.heap.size w0 w0 := Below.refl _ _
    have bE := bD.alloc bD.size (.cells (madeCells #[.int .i64 0] p) 3)
    have bF := (bE.alloc bE.size (.cells (madeCells #[.int .i64 0] p) 3)).drew
    have yd := (HXD.out _ bD.drew)
    have ye := (HXD.out _ bE)
    have hg0 : w.heap.size < w0.heap.size := World.block_lt_of_cell? _ _ HX0.out.1
    have oA := (own_made w0 w.heap.size p (by omega) (by omega)).alloc (.cells (madeCells #[.int .i64 0] p) 3)
    have oB := own_made (w0.alloc (.cells (madeCells #[.int .i64 0] p) 3)) w.heap.size p (by simp; omega) (by omega)
    simp only [World.size_alloc] at oA oB
    have oA' := Lib.hid (oA.below ((Below.refl _ _).drew))
    have oB' := Lib.hid (oB.below ((Below.refl _ _).drew))
    have xF' := HXD.out _ bF
    have xF := Lib.hid xF'
    have hBF := Lib.hid (Below.then HB0.out bF)
    have hd0 := yd.1
    have hd1 := yd.2
    have he0 := ye.1
    have he1 := ye.2
    have hf0 := xF'.1
    have hf1 := xF'.2
    have hlt1 : w.heap.size < w0.heap.size + 1 := by omega
    clear oA oB yd ye bD bE bF xF'
    go_region_held3 (fun W => W.cell? ⟨w.heap.size, 0, none⟩ = some (.int .i64 n) ∧ W.cell? ⟨w.heap.size, 1, none⟩ = some (.slice A n cA))
      (first | exact ⟨y0_0, y1_0⟩ | exact ⟨hd0, hd1⟩ | exact ⟨he0, he1⟩ | exact ⟨hf0, hf1⟩)
      (fail)
    all_goals
      go_wp2_with fail
      go_meet
      first
        | exact ⟨_, _, rfl, rfl, by omega, hg0, hlt1, oA', oB', xF, hBF⟩
        | exact ⟨_, _, rfl, rfl, by omega, hlt1, hg0, oB', oA', xF, hBF⟩
  case rest =>
    obtain ⟨g1, g2, rfl, rfl, hg12, hwg1, hwg2, HF, HM, HX, HB⟩ := hcut
    have HCST : Hid (∀ (W : World) (a S : Nat), a < n → S < 2 ^ n → Below w.heap.size w W → Calls Try.prog 107 #[.agg #[.int .i64 n, .slice A n cA], .int .i64 a, .int .i64 S] W fun e w' => e = .returned (.int .i64 (costN (bt xs) n S a : Nat)) ∧ Below W.heap.size W w') := Lib.hid fun W a S ha hS hW => cCost HP.out (HR.out.below hW) ha hS
    clear HXD HX0 HB0 HP hshl hshl2 hmk y0_0 y1_0 HR
    have hlz : (List.replicate p (0 : Int)).length = p := List.length_replicate
    obtain ⟨hcm, hfm⟩ := HM.out.at0 hlz hP1
    have z0 := hcm 0 hP1
    have f0 := hfm 0
    have e0 : (List.replicate p (0 : Int)).getD 0 0 = 0 := by
      obtain ⟨q, rfl⟩ : ∃ q, p = q + 1 := ⟨p - 1, by omega⟩
      rfl
    rw [e0] at z0
    obtain ⟨o2, gr2⟩ := HM.out.set_ hlz 0 1
    have hS1 := HF.out.kept gr2 (by right; simp [Value.ownBlock]; exact hg12)
    have HM1 := Lib.hid o2
    have HF1 := Lib.hid hS1
    have HX1 := Lib.hid (HX.out.kept gr2 (by simp; omega))
    have HB1 := Lib.hid (HB.out.setCell (p := ⟨g2, 0, none⟩) (by exact Nat.le_of_lt hwg2) (.int .i64 1))
    clear o2 hS1 gr2 HM HF HX HB hcm hfm
    go_wp2
    have hA1 : arIs (bt xs) n 1 (List.replicate p 0) ((List.replicate p 0).set 0 1) := by
      refine ⟨by rw [hlz, HPE.out], by rw [List.length_set, hlz, HPE.out], fun T hT => ?_, fun T hT => ?_⟩
      · obtain rfl : T = 0 := by omega
        rw [arT_zero, getD_set_eq' _ (by rw [hlz]; exact hP1)]
        exact ⟨e0, rfl⟩
      · rw [getD_set_ne' _ (by omega : 0 ≠ T)]
        exact getD_rep p T
    have HA1 := Lib.hid hA1
    clear hA1 hlz e0 z0 f0
    go_loopw [6] (fun t6 wr => ∃ (S : Nat) (F M : List Int), 1 ≤ S ∧ S ≤ p ∧ t6 = .int .i64 S ∧ Hid (arIs (bt xs) n S F M) ∧ Hid (Own wr w.heap.size (.slice (some ⟨g1, 0, none⟩) p p) F) ∧ Hid (Own wr w.heap.size (.slice (some ⟨g2, 0, none⟩) p p) M) ∧ Hid (TBox wr w.heap.size n (.slice A n cA)) ∧ Hid (Below w.heap.size w wr)) (fun t6 _ => p - (intOf t6).toNat)
    case atStart => exact ⟨1, _, _, by omega, by omega, rfl, HA1, HF1, HM1, HX1, HB1⟩
    case round =>
      obtain ⟨wa, rfl⟩ : ∃ x, x = wr := ⟨_, rfl⟩
      obtain ⟨S, F, M, hS1, hSp, rfl, HA, HF, HM, HX, HB⟩ := hrel
      clear HA1 HF1 HM1 HX1 HB1
      by_cases hlt : S < p
      · as_aux_lemma =>
        have hS : S < 2 ^ n := by rw [← HPE.out]; exact hlt
        have hFl : F.length = p := by rw [HPE.out]; exact HA.out.1
        obtain ⟨hcf, hff⟩ := HF.out.at0 hFl hP1
        have zf := hcf S hlt
        have ff := hff S
        obtain ⟨o1, gr1⟩ := HF.out.set_ hFl S (-1)
        have HF1 := Lib.hid o1
        have HM1 := Lib.hid (HM.out.kept gr1 (by right; simp [Value.ownBlock]; exact fun e => hg12 e.symm))
        have HX1 := Lib.hid (HX.out.kept gr1 (by simp; omega))
        have HB1 := Lib.hid (HB.out.setCell (p := ⟨g1, S, none⟩) (by exact Nat.le_of_lt hwg1) (.int .i64 (-1)))
        have HN1 := Lib.hid (arIn_start HA.out hS)
        clear o1 gr1 HF HM HX HB HA hcf hff
        have hSn60 := hS
        go_wp2_with fail
        generalize wa.setCell ⟨g1, S, none⟩ (.int .i64 (-1)) = wb at *
        generalize F.set S (-1) = F1 at *
        refine (membersOf_any S n wb hS (by omega)).mono ?_
        rintro e w2 ⟨v, rfl, ho, hb2⟩
        obtain ⟨B, d, rfl, hd1, hd2, -⟩ := memL_cells ho
        unfold maxLen at hd1
        have HV2 := Lib.hid ho
        have hb1s : g1 < wb.heap.size ∧ g2 < wb.heap.size := ⟨(HF1.out.lt g1 rfl).2, (HM1.out.lt g2 rfl).2⟩
        have HF2 := Lib.hid (HF1.out.below hb2)
        have HM2 := Lib.hid (HM1.out.below hb2)
        have HX2 := Lib.hid (HX1.out.below hb2)
        have HB2 := Lib.hid (Below.then HB1.out hb2)
        have hm8 := memN_len S n
        have HLT := Lib.hid (fun k (hk : k < (memN S n).length) => show (memN S n).getD k 0 ∈ memN S n from by rw [getD_nat hk]; exact List.getElem_mem hk)
        have hb60 : wb.heap.size ≤ w2.heap.size := hb2.size
        clear hb2 ho HF1 HM1 HX1 HB1 zf ff
        generalize hLn : (memN S n).length = m at *
        have HLN := Lib.hid hLn
        clear hLn
        go_wp2
        go_loopw [33] (fun t33 wr => ∃ (k : Nat) (F M : List Int), k ≤ m ∧ t33 = .int .i64 k ∧ Hid (arIn (bt xs) n S k F M) ∧ Hid (Own wr w.heap.size (.slice (some ⟨g1, 0, none⟩) p p) F) ∧ Hid (Own wr w.heap.size (.slice (some ⟨g2, 0, none⟩) p p) M) ∧ Hid (Own wr wb.heap.size (.slice B m d) (memL S n)) ∧ Hid (TBox wr w.heap.size n (.slice A n cA)) ∧ Hid (Below w.heap.size w wr)) (fun t33 _ => m - (intOf t33).toNat)
        case atStart => exact ⟨0, F1, M, by omega, rfl, HN1, HF2, HM2, HV2, HX2, HB2⟩
        case round =>
          obtain ⟨wk, rfl⟩ : ∃ x, x = wr := ⟨_, rfl⟩
          obtain ⟨k, F, M, hk, rfl, HN, HF, HM, HV, HX, HB⟩ := hrel
          clear HN1 HF2 HM2 HV2 HX2 HB2
          by_cases hltk : k < m
          · as_aux_lemma =>
            have hkl : k < (memN S n).length := by rw [HLN.out]; exact hltk
            have hmem := HLT.out k hltk
            have ha := (mem_memN.1 hmem).1
            have hS60 : S < 2 ^ 62 := Nat.lt_of_lt_of_le hlt (Nat.le_trans hP8 (by decide))
            have hRS := less_small hS60 (by omega) hmem
            have hFl : F.length = p := by rw [HPE.out]; exact HN.out.1
            have hMl : M.length = p := by rw [HPE.out]; exact HN.out.2.1
            have hand := andNot_shl S ((memN S n).getD k 0) (by omega) (by omega)
            have hval := HN.out.2.2.1 _ hRS
            have hfs := HN.out.2.2.2.2.1
            have hms := HN.out.2.2.2.2.2
            have hbR := arT_bound (r := bt xs) (S := less S (2 ^ (memN S n).getD k 0)) HIR.out h8 (less_lt hS)
            have hbF := arF_bound (r := bt xs) (S := S) h8 (fun a => arT_bound (r := bt xs) (S := less S (2 ^ a)) HIR.out h8 (less_lt hS)) k (by omega)
            have hmq : k * 16777216 ≤ 134217728 := by
              have : k ≤ 8 := by omega
              omega
            have hc8 : costN (bt xs) n S ((memN S n).getD k 0) ≤ 8 := Nat.le_trans List.countP_le_length (Nat.le_trans (memN_len S n) h8)
            have HST := Lib.hid (arF_cases (r := bt xs) hkl rfl rfl)
            have k1 := quiet_below (w := wk) (fun W hW => HCST.out W ((memN S n).getD k 0) S ha hS (Below.then HB.out hW))
            have hVl : (memL S n).length = m := by rw [← HLN.out]; unfold memL; rw [List.length_map]
            obtain ⟨gv, cv, ev, -, -, -, hxv, -⟩ := HV.out.at_ hVl (by omega)
            injection ev with ev1 ev2 ev3
            subst ev1 ev3
            have zv := hxv k hltk
            rw [memL_at hkl, ← getD_nat hkl] at zv
            obtain ⟨hcf, hff⟩ := HF.out.at0 hFl hP1
            obtain ⟨hcm, hfm⟩ := HM.out.at0 hMl hP1
            have zr := hcf _ (Nat.lt_trans hRS hlt)
            rw [hval.1] at zr
            have hvm := hval.2
            clear hxv hcf hff hcm hfm hval hmem
            generalize (memN S n).getD k 0 = a at *
            generalize less S (2 ^ a) = R at *
            generalize costN (bt xs) n S a = C at *
            generalize hUe : arF (bt xs) n S (k + 1) = U at *
            have HUE := Lib.hid hUe
            clear hUe
            generalize arT (bt xs) n R = V at *
            generalize hTe : arF (bt xs) n S k = T at *
            have HTE := Lib.hid hTe
            clear hTe
            obtain ⟨V1, V2⟩ := V
            obtain ⟨T1, T2⟩ := T
            simp only at *
            have y0_0 := HX.out.1
            have y1_0 := HX.out.2
            have c0 := cell_regrown zr
            have hVb : (V2 : Int) ≤ 16777216 := by omega
            have hTb : (T2 : Int) ≤ 134217728 := by omega
            have HFl := Lib.hid hFl
            have HMl := Lib.hid hMl
            have HVV := Lib.hid (show V2 ≤ 16777216 from hbR.2.2)
            go_wp2_with fail
            have y0_q := cell_regrown y0_0
            have y1_q := cell_regrown y1_0
            clear y0_0 y1_0
            refine wp_region_below (by kernel_rfl) (by kernel_rfl) ?_
            repeat (go_big_quiet_step (first | (with_reducible exact k1 _ _)))
            refine wpQuiet_nil ?_
            intro wq hbq0
            have hbq := Lib.hid hbq0
            clear hbq0
            clear y0_q y1_q
            have HF2 := Lib.hid (HF.out.below hbq.out)
            have HM2 := Lib.hid (HM.out.below hbq.out)
            have HV2 := Lib.hid (HV.out.below hbq.out)
            have HX2 := Lib.hid (HX.out.below hbq.out)
            have HB2 := Lib.hid (Below.then HB.out hbq.out)
            obtain ⟨hcf, hff⟩ := HF2.out.at0 HFl.out hP1
            obtain ⟨hcm, hfm⟩ := HM2.out.at0 HMl.out hP1
            have zs := hcf S hlt
            rw [hfs] at zs
            have fs := hff S
            clear hcf hff k1 c0 zr zv HF HM HV HX HB hbq
            by_cases h1 : T1 < 0 ∨ (C : Int) + V1 < T1
            · as_aux_lemma =>
              have HUU : Hid (U = ((C : Int) + V1, V2)) := by unfold Hid; exact HST.out.1 h1
              have zmr := hcm R (by omega)
              rw [hvm] at zmr
              have zms := hcm S hlt
              have fms := hfm S
              obtain ⟨o3, gr3⟩ := HF2.out.set_ HFl.out S ((C : Int) + V1)
              have HM3 := Lib.hid (HM2.out.kept gr3 (by right; simp [Value.ownBlock]; exact fun e => hg12 e.symm))
              obtain ⟨o4, gr4⟩ := HM3.out.set_ HMl.out S (V2 : Int)
              have HF4 := Lib.hid (o3.kept gr4 (by right; simp [Value.ownBlock]; exact hg12))
              have HM4 := Lib.hid o4
              have HX4 := Lib.hid ((HX2.out.kept gr3 (by simp; omega)).kept gr4 (by simp; omega))
              have HB4 := Lib.hid ((HB2.out.setCell (p := ⟨g1, S, none⟩) (by exact Nat.le_of_lt hwg1) (.int .i64 ((C : Int) + V1))).setCell (p := ⟨g2, S, none⟩) (by exact Nat.le_of_lt hwg2) (.int .i64 (V2 : Int)))
              have HV4 := Lib.hid ((HV2.out.kept gr3 (own_ne (fun k hk => (HV2.out.lt k hk).1) hb1s.1)).kept gr4 (own_ne (fun k hk => (HV2.out.lt k hk).1) hb1s.2))
              have HN4 := Lib.hid (arIn_both HN.out hS (HUE.out.trans HUU.out))
              have zms3 := ((HM3.out.at0 HMl.out hP1).1 S hlt)
              have fms3 := ((HM3.out.at0 HMl.out hP1).2 S)
              clear o3 o4 gr3 gr4 hcm hfm HF2 HM2 HV2 HX2 HB2 HM3
              rcases h1 with h1 | h1
              · have d1 : decide (T1 < 0) = true := by simpa using h1
                go_wp2
                go_roundw
                case rel => exact ⟨k + 1, _, _, by omega, by go_num, HN4, HF4, HM4, HV4, HX4, HB4⟩
                case measure => simp [intOf]; omega
              · rcases d0 : decide (T1 < 0) with _ | _
                · have d1 : decide ((C : Int) + V1 < T1) = true := by simpa using h1
                  go_wp2
                  go_roundw
                  case rel => exact ⟨k + 1, _, _, by omega, by go_num, HN4, HF4, HM4, HV4, HX4, HB4⟩
                  case measure => simp [intOf]; omega
                · go_wp2
                  go_roundw
                  case rel => exact ⟨k + 1, _, _, by omega, by go_num, HN4, HF4, HM4, HV4, HX4, HB4⟩
                  case measure => simp [intOf]; omega
            · as_aux_lemma =>
              have h1a : ¬ T1 < 0 := fun h => h1 (.inl h)
              have h1b : ¬ (C : Int) + V1 < T1 := fun h => h1 (.inr h)
              have d1 : decide (T1 < 0) = false := by simpa using h1a
              have d2 : decide ((C : Int) + V1 < T1) = false := by simpa using h1b
              by_cases h2 : (C : Int) + V1 = T1
              · as_aux_lemma =>
                have HUU : Hid (U = (T1, T2 + V2)) := by unfold Hid; exact HST.out.2.1 h1 h2
                have d3 : ((C : Int) + V1 == T1) = true := by simpa using h2
                have zmr := hcm R (by omega)
                rw [hvm] at zmr
                have zms := hcm S hlt
                rw [hms] at zms
                go_wp2_with fail
                have c0 := cell_regrown zmr
                have c1 := cell_regrown zms
                refine wp_region_below_tail 10 (by kernel_rfl) (by kernel_rfl) ?_
                simp only [List.take_succ_cons, List.take_zero, List.drop_succ_cons, List.drop_zero]
                repeat (go_big_quiet_step (first | (with_reducible fail)))
                refine wpQuiet_nil ?_
                intro wq hbq0
                have hbq := Lib.hid hbq0
                clear hbq0
                clear c0 c1
                have HM3 := Lib.hid (HM2.out.below hbq.out)
                have zms3 := ((HM3.out.at0 HMl.out hP1).1 S hlt)
                have fms3 := ((HM3.out.at0 HMl.out hP1).2 S)
                obtain ⟨o4, gr4⟩ := HM3.out.set_ HMl.out S ((T2 + V2 : Nat) : Int)
                have HF4 := Lib.hid ((HF2.out.below hbq.out).kept gr4 (by right; simp [Value.ownBlock]; exact hg12))
                have HM4 := Lib.hid o4
                have HX4 := Lib.hid ((HX2.out.below hbq.out).kept gr4 (by simp; omega))
                have HB4 := Lib.hid ((Below.then HB2.out hbq.out).setCell (p := ⟨g2, S, none⟩) (by exact Nat.le_of_lt hwg2) (.int .i64 ((T2 + V2 : Nat) : Int)))
                have HV4 := Lib.hid ((HV2.out.below hbq.out).kept gr4 (own_ne (fun k hk => (HV2.out.lt k hk).1) hb1s.2))
                have HN4 := Lib.hid (arIn_more HN.out hS (by rw [HTE.out]; exact HUE.out.trans HUU.out))
                have hsum : wrap64 ((T2 : Int) + (V2 : Int)) = ((T2 + V2 : Nat) : Int) := by rw [IntWalk.wrap64_in _ (by omega)]; omega
                clear o4 gr4 hcm hfm HF2 HM2 HV2 HX2 HB2 HM3
                go_wp2
                go_roundw
                case rel => exact ⟨k + 1, _, _, by omega, by go_num, HN4, HF4, HM4, HV4, HX4, HB4⟩
                case measure => simp [intOf]; omega
              · as_aux_lemma =>
                have HUU : Hid (U = (T1, T2)) := by unfold Hid; exact HST.out.2.2 h1 h2
                have d3 : ((C : Int) + V1 == T1) = false := by simpa using h2
                have HN4 := Lib.hid (arIn_keep HN.out (by rw [HTE.out]; exact HUE.out.trans HUU.out))
                go_wp2
                go_roundw
                case rel => exact ⟨k + 1, F, M, by omega, by go_num, HN4, HF2, HM2, HV2, HX2, HB2⟩
                case measure => simp [intOf]; omega
          · as_aux_lemma =>
            obtain rfl : k = m := by omega
            have HD := Lib.hid (arIn_done (by rw [HLN.out]; exact HN.out) hS (by omega))
            go_wp2
            go_roundw
            case rel => exact ⟨S + 1, F, M, by omega, by omega, by go_num, HD, HF, HM, HX, HB⟩
            case measure => simp [intOf]; omega
      · as_aux_lemma =>
        obtain rfl : S = p := by omega
        go_wp2
        go_ret2
        exact ⟨g1, g2, F, M, rfl, HA.out, HF.out, HM.out, HB.out⟩
end Go.Proofs.Ytajeledbmnndmaa

namespace Go.Proofs.Ytajeledbmnndmaa
open Go.RowKit Go.Sort
set_option maxRecDepth 100000

def ordAt (ns : List Int) (i : Nat) : Bool := inB (ns.getD i 0) 0 ((ns.length : Int) - 1) && !(containsI (ns.take i) (ns.getD i 0))
noncomputable def permB (n : Nat) (ns : List Int) : Bool := @decide (PermP n ns) (Classical.propDecidable _)
theorem permB_true {n : Nat} {ns : List Int} : permB n ns = true ↔ PermP n ns := by unfold permB; simp
theorem permB_false {n : Nat} {ns : List Int} : permB n ns = false ↔ ¬ PermP n ns := by rw [← permB_true]; simp
theorem getD_take_ {ns : List Int} {i j : Nat} (h : j < i) : (ns.take i).getD j 0 = ns.getD j 0 := by
  simp [List.getD_eq_getElem?_getD, h]
theorem ord_no {ns : List Int} {k : Nat} (hk : k < ns.length) (h : ordAt ns k = false) : permB ns.length ns = false := permB_false.2 fun hp => by
  have h1 := hp.2.1 _ (getD_mem' hk)
  have h2 : inB (ns.getD k 0) 0 ((ns.length : Int) - 1) = true := inB_true.2 (by omega)
  have h3 : containsI (ns.take k) (ns.getD k 0) = false := by
    unfold containsI
    rw [decide_eq_false_iff_not]
    intro hm
    obtain ⟨j, hj, e⟩ := List.mem_iff_getElem.1 hm
    rw [List.length_take] at hj
    rw [List.getElem_take] at e
    rw [show ns.getD k 0 = ns[k] by simp [hk]] at e
    exact List.pairwise_iff_getElem.1 hp.2.2 j k (by omega) hk (by omega) e
  rw [ordAt, h2, h3] at h
  simp at h
theorem ord_yes {ns : List Int} (h : ∀ k, k < ns.length → ordAt ns k = true) : permB ns.length ns = true := permB_true.2 <| by
  have hA : ∀ k, k < ns.length → (0 ≤ ns.getD k 0 ∧ ns.getD k 0 ≤ (ns.length : Int) - 1) ∧ ns.getD k 0 ∉ ns.take k := fun k hk => by
    have := h k hk
    unfold ordAt at this
    rw [Bool.and_eq_true, inB_true] at this
    refine ⟨this.1, ?_⟩
    have := this.2
    unfold containsI at this
    simpa using this
  refine ⟨rfl, fun x hx => ?_, ?_⟩
  · obtain ⟨k, hk, rfl⟩ := List.mem_iff_getElem.1 hx
    have := (hA k hk).1
    rw [show ns.getD k 0 = ns[k] by simp [hk]] at this
    omega
  · rw [List.Nodup, List.pairwise_iff_getElem]
    intro i j hi hj hij e
    refine (hA j hj).2 ?_
    rw [show ns.getD j 0 = ns[j] by simp [hj], ← e]
    rw [List.mem_iff_getElem]
    exact ⟨i, by rw [List.length_take]; omega, by rw [List.getElem_take]⟩
set_option maxHeartbeats 2000000 in
theorem isOrder_any (nv : Value) (ns : List Int) (w : World) (h : Rd w nv ns) (hl : ns.length ≤ 1099511627776) :
    Calls Try.prog 83 #[nv] w fun e w' => e = .returned (.bool (permB ns.length ns)) ∧ Below w.heap.size w w' := by
  have HR := Lib.hid h
  obtain ⟨B, d, rfl, hl2, hm2, hc2⟩ := h
  unfold maxLen at hm2
  have HC := Lib.hid hc2
  clear hc2
  have HNO := Lib.hid (fun (k : Nat) (hk : k < ns.length) (hq : ordAt ns k = false) => ord_no hk hq)
  have HYES := Lib.hid (fun (hq : ∀ k, k < ns.length → ordAt ns k = true) => ord_yes hq)
  have HAT : Hid (∀ k, ordAt ns k = (inB (ns.getD k 0) 0 ((ns.length : Int) - 1) && !(containsI (ns.take k) (ns.getD k 0)))) := fun _ => rfl
  generalize hn : ns.length = n at *
  have HN := Lib.hid hn
  clear hn
  go_enter Try.func83, Try.ntmps83
  go_wp2
  go_loopw [7] (fun i wr => ∃ k : Nat, k ≤ n ∧ i = .int .i64 k ∧ Hid (∀ j, j < k → ordAt ns j = true) ∧ Below w.heap.size w wr) (fun i _ => n - (intOf i).toNat)
  case atStart => exact ⟨0, by omega, rfl, fun _ h => absurd h (by omega), Below.refl _ _⟩
  case round =>
    obtain ⟨k, hk, rfl, HP, hb⟩ := hrel
    have HB := Lib.hid hb
    clear hb
    by_cases hlt : k < n
    · obtain ⟨g, off, rfl, hg, hy⟩ := HC.out (by omega)
      have hyk := (HB.out.cell (p := ⟨g, off + k, none⟩) hg).trans (hy k hlt)
      have HA := Lib.hid (HAT.out k)
      have hT := Lib.hid ((HR.out.below HB.out).take_ k (by rw [HN.out]; omega))
      have HNK := Lib.hid (HNO.out k hlt)
      clear hy
      generalize hz : ns.getD k 0 = y at *
      clear hz
      rcases q1 : inB y 0 ((n : Int) - 1) with _ | _
      · go_wp2_with fail
        refine (within_any _ _ _ _).mono ?_
        rintro e wz ⟨rfl, rfl⟩
        rw [q1]
        go_wp2
        go_ret
        exact ⟨ret_bool (HNK.out (by rw [HA.out, q1]; rfl)).symm, HB.out⟩
      · rcases q2 : containsI (ns.take k) y with _ | _
        · go_wp2_with fail
          refine (within_any _ _ _ _).mono ?_
          rintro e wz ⟨rfl, rfl⟩
          rw [q1]
          go_wp2_with fail
          refine (contains_any _ (ns.take k) y _ hT.out).mono ?_
          rintro e wz ⟨rfl, rfl⟩
          rw [q2]
          go_wp2
          go_roundw
          case rel => exact ⟨k + 1, by omega, by go_num, fun j hj => by
            by_cases hjk : j < k
            · exact HP.out j hjk
            · obtain rfl : j = k := by omega
              rw [HA.out, q1, q2]; rfl, HB.out⟩
          case measure => simp [intOf]; omega
        · go_wp2_with fail
          refine (within_any _ _ _ _).mono ?_
          rintro e wz ⟨rfl, rfl⟩
          rw [q1]
          go_wp2_with fail
          refine (contains_any _ (ns.take k) y _ hT.out).mono ?_
          rintro e wz ⟨rfl, rfl⟩
          rw [q2]
          go_wp2
          go_ret
          exact ⟨ret_bool (HNK.out (by rw [HA.out, q1, q2]; rfl)).symm, HB.out⟩
    · obtain rfl : k = n := by omega
      go_wp2
      go_ret
      exact ⟨ret_bool (HYES.out HP.out).symm, HB.out⟩
end Go.Proofs.Ytajeledbmnndmaa

namespace Go.Proofs.Ytajeledbmnndmaa
open Go.RowKit Go.Sort
set_option maxRecDepth 100000
variable {n : Nat} {sl ov : Value} {xs : List Int} {w : World} {l : List Nat}
set_option maxHeartbeats 1000000 in
theorem cOrderOk (hp : tourP n xs) (h : Rd w sl xs) (hl : l ∈ ordL n) (ho : Rd w ov (nI l)) :
    Calls Try.prog 57 #[.agg #[.int .i64 n, sl], ov] w fun e w' => e = .returned (.bool true) ∧ Below w.heap.size w w' := by
  have HR := Lib.hid h
  obtain ⟨A, cA, rfl, -, -, -⟩ := h
  rw [tour_len hp] at *
  have HP := Lib.hid hp
  have h8 : n ≤ 8 := by have := hp.1; omega
  have hk : (nI l).length = n := by rw [nI_len]; exact (mem_ordL.1 hl).1
  have hb : permB (nI l).length (nI l) = true := by rw [hk]; exact permB_true.2 (perm_nI.2 hl)
  have HV := Lib.hid ho
  obtain ⟨B, cB, rfl, -, -, -⟩ := ho
  have HK := Lib.hid hk
  have HPB := Lib.hid hb
  rw [hk] at HV ⊢
  clear hp hl hk hb
  go_enter Try.func57, Try.ntmps57
  go_wp2_with fail
  have b0 := below_alloc1 w (.cells #[.int .i64 n, .slice A n cA] 28)
  have x0 := TBox.new w n (.slice A n cA) 28
  generalize w.alloc (.cells #[.int .i64 n, .slice A n cA] 28) = w0 at *
  have HX0 := Lib.hid x0
  have HB0 := Lib.hid b0
  clear x0 b0
  have y0_0 := HX0.out.1
  have y1_0 := HX0.out.2
  go_wp2_with fail
  refine (implTourOk n _ xs _ (HR.out.below HB0.out)).mono ?_
  rintro e w1 ⟨rfl, hb1⟩
  rw [tourB_true.2 HP.out]
  have HB1 := Lib.hid (Below.then HB0.out hb1)
  have HX1 := Lib.hid (HX0.out.below hb1)
  clear hb1 y0_0 y1_0 HX0 HB0
  have y0_1 := HX1.out.1
  have y1_1 := HX1.out.2
  go_wp2_with fail
  refine (isOrder_any _ (nI l) _ (HV.out.below HB1.out) (by rw [HK.out]; omega)).mono ?_
  rintro e w2 ⟨rfl, hb2⟩
  rw [HPB.out]
  have HB2 := Lib.hid (Below.then HB1.out hb2)
  clear hb2
  go_wp2
  go_ret
  exact ⟨rfl, HB2.out⟩
set_option maxHeartbeats 1000000 in
theorem cRevs (hp : tourP n xs) (h : Rd w sl xs) (hl : l ∈ ordL n) (ho : Rd w ov (nI l)) :
    Calls Try.prog 53 #[.agg #[.int .i64 n, sl], ov] w fun e w' => e = .returned (.int .i64 (revN (bt xs) l : Nat)) ∧ Below w.heap.size w w' := by
  have HR := Lib.hid h
  obtain ⟨A, cA, rfl, -, -, -⟩ := h
  rw [tour_len hp] at *
  have HP := Lib.hid hp
  have HL := Lib.hid hl
  have HV := Lib.hid ho
  obtain ⟨B, cB, rfl, -, -, -⟩ := ho
  clear hp hl
  go_enter Try.func53, Try.ntmps53
  go_wp2_with fail
  have b0 := below_alloc1 w (.cells #[.int .i64 n, .slice A n cA] 28)
  have x0 := TBox.new w n (.slice A n cA) 28
  generalize w.alloc (.cells #[.int .i64 n, .slice A n cA] 28) = w0 at *
  have HX0 := Lib.hid x0
  have HB0 := Lib.hid b0
  clear x0 b0
  have y0_0 := HX0.out.1
  have y1_0 := HX0.out.2
  go_wp2_with fail
  refine (cOrderOk HP.out (HR.out.below HB0.out) HL.out (HV.out.below HB0.out)).mono ?_
  rintro e w1 ⟨rfl, hb1⟩
  have HB1 := Lib.hid (Below.then HB0.out hb1)
  have HX1 := Lib.hid (HX0.out.below hb1)
  clear hb1 y0_0 y1_0 HX0 HB0
  have y0_1 := HX1.out.1
  have y1_1 := HX1.out.2
  go_wp2_with fail
  refine (cBack HP.out (HR.out.below HB1.out) HL.out (HV.out.below HB1.out)).mono ?_
  rintro e w2 ⟨v, rfl, ho2, hb2⟩
  obtain ⟨C, cC, rfl, -⟩ := ho2.form
  rw [bgN_len HL.out]
  have HB2 := Lib.hid (Below.then HB1.out hb2)
  clear hb2 ho2
  go_wp2
  go_ret
  exact ⟨rfl, HB2.out⟩
set_option maxHeartbeats 1000000 in
theorem cBackGames (hp : tourP n xs) (h : Rd w sl xs) (hl : l ∈ ordL n) (ho : Rd w ov (nI l)) :
    Calls Try.prog 56 #[.agg #[.int .i64 n, sl], ov] w fun e w' => ∃ v', e = .returned v' ∧ OwnRows w' w.heap.size v' (bgN (bt xs) n l) ∧ Below w.heap.size w w' := by
  have HR := Lib.hid h
  obtain ⟨A, cA, rfl, -, -, -⟩ := h
  rw [tour_len hp] at *
  have HP := Lib.hid hp
  have HL := Lib.hid hl
  have HV := Lib.hid ho
  obtain ⟨B, cB, rfl, -, -, -⟩ := ho
  clear hp hl
  go_enter Try.func56, Try.ntmps56
  go_wp2_with fail
  have b0 := below_alloc1 w (.cells #[.int .i64 n, .slice A n cA] 28)
  have x0 := TBox.new w n (.slice A n cA) 28
  generalize w.alloc (.cells #[.int .i64 n, .slice A n cA] 28) = w0 at *
  have HX0 := Lib.hid x0
  have HB0 := Lib.hid b0
  clear x0 b0
  have y0_0 := HX0.out.1
  have y1_0 := HX0.out.2
  go_wp2_with fail
  refine (cOrderOk HP.out (HR.out.below HB0.out) HL.out (HV.out.below HB0.out)).mono ?_
  rintro e w1 ⟨rfl, hb1⟩
  have HB1 := Lib.hid (Below.then HB0.out hb1)
  have HX1 := Lib.hid (HX0.out.below hb1)
  clear hb1 y0_0 y1_0 HX0 HB0
  have y0_1 := HX1.out.1
  have y1_1 := HX1.out.2
  go_wp2_with fail
  refine (cBack HP.out (HR.out.below HB1.out) HL.out (HV.out.below HB1.out)).mono ?_
  rintro e w2 ⟨v, rfl, ho2, hb2⟩
  have HB2 := Lib.hid (Below.then HB1.out hb2)
  have HO2 := Lib.hid (ho2.mono HB1.out.size)
  clear hb2 ho2
  go_wp2
  go_ret
  exact ⟨v, rfl, HO2.out, HB2.out⟩
theorem arIs_top {r : Nat → Nat → Bool} {n : Nat} {F M : List Int} (hr : ∀ a, r a a = false) (h : arIs r n (2 ^ n) F M) : F.getD (2 ^ n - 1) 0 = (fewN r n : Int) ∧ M.getD (2 ^ n - 1) 0 = (manyN r n : Int) := by
  have := h.2.2.1 (2 ^ n - 1) (full_ltN n)
  rw [(few_law hr).1] at this
  exact this
set_option maxHeartbeats 1000000 in
theorem cFew (hp : tourP n xs) (h : Rd w sl xs) : Calls Try.prog 52 #[.agg #[.int .i64 n, sl]] w fun e w' => e = .returned (.int .i64 (fewN (bt xs) n : Nat)) ∧ Below w.heap.size w w' := by
  have HR := Lib.hid h
  obtain ⟨A, cA, rfl, -, -, -⟩ := h
  rw [tour_len hp] at *
  have HP := Lib.hid hp
  have h8 : n ≤ 8 := by have := hp.1; omega
  have hfull := full_nat n h8
  have hlt := full_ltN n
  have hle := pow_le h8
  have HIR := Lib.hid (bt_irr hp)
  clear hp
  go_enter Try.func52, Try.ntmps52
  go_wp2_with fail
  have b0 := below_alloc1 w (.cells #[.int .i64 n, .slice A n cA] 28)
  have x0 := TBox.new w n (.slice A n cA) 28
  generalize w.alloc (.cells #[.int .i64 n, .slice A n cA] 28) = w0 at *
  have HX0 := Lib.hid x0
  have HB0 := Lib.hid b0
  clear x0 b0
  have y0_0 := HX0.out.1
  have y1_0 := HX0.out.2
  go_wp2_with fail
  refine (implTourOk n _ xs _ (HR.out.below HB0.out)).mono ?_
  rintro e w1 ⟨rfl, hb1⟩
  rw [tourB_true.2 HP.out]
  have HB1 := Lib.hid (Below.then HB0.out hb1)
  have HX1 := Lib.hid (HX0.out.below hb1)
  clear hb1 y0_0 y1_0 HX0 HB0
  have y0_1 := HX1.out.1
  have y1_1 := HX1.out.2
  go_wp2_with fail
  refine (cArr HP.out (HR.out.below HB1.out)).mono ?_
  rintro e w2 ⟨g1, g2, F, M, rfl, hA, hF, hM, hb2⟩
  have HB2 := Lib.hid (Below.then HB1.out hb2)
  have HX2 := Lib.hid (HX1.out.below hb2)
  have ht := (arIs_top HIR.out hA).1
  have zf := (hF.at0 hA.1 (Nat.two_pow_pos n)).1 _ hlt
  rw [ht] at zf
  clear hb2 y0_1 y1_1 HX1 hF hM hA ht
  have y0_2 := HX2.out.1
  have y1_2 := HX2.out.2
  generalize hpe : 2 ^ n - 1 = q at *
  generalize hpe2 : 2 ^ n = p at *
  clear hpe hpe2
  go_wp2
  go_ret
  exact ⟨rfl, HB2.out⟩
set_option maxHeartbeats 1000000 in
theorem cMany (hp : tourP n xs) (h : Rd w sl xs) : Calls Try.prog 62 #[.agg #[.int .i64 n, sl]] w fun e w' => e = .returned (.int .i64 (manyN (bt xs) n : Nat)) ∧ Below w.heap.size w w' := by
  have HR := Lib.hid h
  obtain ⟨A, cA, rfl, -, -, -⟩ := h
  rw [tour_len hp] at *
  have HP := Lib.hid hp
  have h8 : n ≤ 8 := by have := hp.1; omega
  have hfull := full_nat n h8
  have hlt := full_ltN n
  have hle := pow_le h8
  have HIR := Lib.hid (bt_irr hp)
  clear hp
  go_enter Try.func62, Try.ntmps62
  go_wp2_with fail
  have b0 := below_alloc1 w (.cells #[.int .i64 n, .slice A n cA] 28)
  have x0 := TBox.new w n (.slice A n cA) 28
  generalize w.alloc (.cells #[.int .i64 n, .slice A n cA] 28) = w0 at *
  have HX0 := Lib.hid x0
  have HB0 := Lib.hid b0
  clear x0 b0
  have y0_0 := HX0.out.1
  have y1_0 := HX0.out.2
  go_wp2_with fail
  refine (implTourOk n _ xs _ (HR.out.below HB0.out)).mono ?_
  rintro e w1 ⟨rfl, hb1⟩
  rw [tourB_true.2 HP.out]
  have HB1 := Lib.hid (Below.then HB0.out hb1)
  have HX1 := Lib.hid (HX0.out.below hb1)
  clear hb1 y0_0 y1_0 HX0 HB0
  have y0_1 := HX1.out.1
  have y1_1 := HX1.out.2
  go_wp2_with fail
  refine (cArr HP.out (HR.out.below HB1.out)).mono ?_
  rintro e w2 ⟨g1, g2, F, M, rfl, hA, hF, hM, hb2⟩
  have HB2 := Lib.hid (Below.then HB1.out hb2)
  have HX2 := Lib.hid (HX1.out.below hb2)
  have ht := (arIs_top HIR.out hA).2
  have zf := (hM.at0 hA.2.1 (Nat.two_pow_pos n)).1 _ hlt
  rw [ht] at zf
  clear hb2 y0_1 y1_1 HX1 hF hM hA ht
  have y0_2 := HX2.out.1
  have y1_2 := HX2.out.2
  generalize hpe : 2 ^ n - 1 = q at *
  generalize hpe2 : 2 ^ n = p at *
  clear hpe hpe2
  go_wp2
  go_ret
  exact ⟨rfl, HB2.out⟩
theorem best_more {r : Nat → Nat → Bool} {n S f a : Nat} (h : (memN S n).find? (fun a => decide ((costN r n S a : Int) + (arT r n (less S (2 ^ a))).1 = (arT r n S).1)) = some a) : bestF r n (f + 1) S = a :: bestF r n f (less S (2 ^ a)) := by
  rw [bestF, h]
theorem find_at {p : Nat → Bool} : ∀ {l : List Nat} {k : Nat}, k < l.length → (∀ j, j < k → p (l.getD j 0) = false) → p (l.getD k 0) = true → l.find? p = some (l.getD k 0) := by
  intro l
  induction l with
  | nil => intro k h; simp at h
  | cons a l ih =>
    intro k hk hn hy
    cases k with
    | zero =>
      have hy' : p a = true := hy
      rw [List.find?_cons, hy']; rfl
    | succ k =>
      have h0 : p a = false := hn 0 (by omega)
      rw [List.find?_cons, h0]
      exact ih (by simpa using hk) (fun j hj => hn (j + 1) (by omega)) hy
set_option maxHeartbeats 4000000 in
theorem cBestO (hp : tourP n xs) (h : Rd w sl xs) : Calls Try.prog 51 #[.agg #[.int .i64 n, sl]] w fun e w' => ∃ v', e = .returned v' ∧ Own w' w.heap.size v' (nI (bestO (bt xs) n)) ∧ Below w.heap.size w w' := by
  have HR := Lib.hid h
  obtain ⟨A, cA, rfl, -, -, -⟩ := h
  rw [tour_len hp] at *
  have HP := Lib.hid hp
  have h8 : n ≤ 8 := by have := hp.1; omega
  have hfull := full_nat n h8
  have hlt := full_ltN n
  have hle := pow_le h8
  have HIR := Lib.hid (bt_irr hp)
  have HCST : Hid (∀ (W : World) (a S : Nat), a < n → S < 2 ^ n → Below w.heap.size w W → Calls Try.prog 107 #[.agg #[.int .i64 n, .slice A n cA], .int .i64 a, .int .i64 S] W fun e w' => e = .returned (.int .i64 (costN (bt xs) n S a : Nat)) ∧ Below W.heap.size W w') := Lib.hid fun W a S ha hS hW => cCost HP.out (HR.out.below hW) ha hS
  clear hp
  go_enter Try.func51, Try.ntmps51
  go_wp2_with fail
  have b0 := below_alloc1 w (.cells #[.int .i64 n, .slice A n cA] 28)
  have x0 := TBox.new w n (.slice A n cA) 28
  generalize w.alloc (.cells #[.int .i64 n, .slice A n cA] 28) = w0 at *
  have HX0 := Lib.hid x0
  have HB0 := Lib.hid b0
  clear x0 b0
  have y0_0 := HX0.out.1
  have y1_0 := HX0.out.2
  go_wp2_with fail
  refine (implTourOk n _ xs _ (HR.out.below HB0.out)).mono ?_
  rintro e w1 ⟨rfl, hb1⟩
  rw [tourB_true.2 HP.out]
  have HB1 := Lib.hid (Below.then HB0.out hb1)
  have HX1 := Lib.hid (HX0.out.below hb1)
  clear hb1 y0_0 y1_0 HX0 HB0
  have y0_1 := HX1.out.1
  have y1_1 := HX1.out.2
  go_wp2_with fail
  refine (cArr HP.out (HR.out.below HB1.out)).mono ?_
  rintro e w2 ⟨g1, g2, F, M, rfl, hA, hF, hM, hb2⟩
  have HB2 := Lib.hid (Below.then HB1.out hb2)
  have HX2 := Lib.hid (HX1.out.below hb2)
  have HA := Lib.hid hA
  have HF2 := Lib.hid hF
  clear hb2 y0_1 y1_1 HX1 HB1 hF hM hA
  have y0_2 := HX2.out.1
  have y1_2 := HX2.out.2
  have hP1 := Nat.two_pow_pos n
  have hfb := full_mem n
  have hf0 : bestO (bt xs) n = [] ++ bestF (bt xs) n n (2 ^ n - 1) := rfl
  have HF0 := Lib.hid hf0
  have hcd : (memN (2 ^ n - 1) n).length = n := by rw [hfb, List.length_range]
  obtain ⟨p, hpe⟩ : ∃ p, p = 2 ^ n := ⟨_, rfl⟩
  have HPE := Lib.hid hpe
  rw [← hpe] at hle hlt hfull hP1 hcd ⊢
  have HF2 := Lib.hid (show Own w2 w1.heap.size (.slice (some ⟨g1, 0, none⟩) p p) F by rw [hpe]; exact HF2.out)
  rw [← hpe] at HF0
  clear hfb hf0 hpe
  have hg1 : g1 < w2.heap.size := (HF2.out.lt g1 rfl).2
  have hwz : w.heap.size < w2.heap.size := World.block_lt_of_cell? _ _ y0_2
  go_wp2
  rw [hfull]
  clear hfull
  go_loopw [5, 6] (fun t5 t6 wr => ∃ (S f : Nat) (q : List Nat), S < p ∧ t6 = .int .i64 S ∧ (memN S n).length = f ∧ Hid (bestO (bt xs) n = q ++ bestF (bt xs) n f S) ∧ q.length + f = n ∧ Hid (Own wr w2.heap.size t5 (nI q)) ∧ Hid (Own wr w1.heap.size (.slice (some ⟨g1, 0, none⟩) p p) F) ∧ Hid (TBox wr w.heap.size n (.slice A n cA)) ∧ Hid (Below w2.heap.size w2 wr)) (fun _ t6 _ => (intOf t6).toNat)
  case atStart => exact ⟨p - 1, n, [], hlt, rfl, hcd, HF0, by simp, Lib.hid (Own.nil_ _ _), HF2, HX2, Lib.hid (Below.refl _ _)⟩
  case round =>
    obtain ⟨wa, rfl⟩ : ∃ x, x = wr := ⟨_, rfl⟩
    obtain ⟨S, f, q, hSp, rfl, hf, HE, hqf, HO, HF, HX, HB⟩ := hrel
    clear HF2 HX2 HF0 y0_2 y1_2
    by_cases h0 : S = 0
    · as_aux_lemma =>
      subst h0
      have hf0 : f = 0 := by rw [← hf]; simp [memN]
      have HE2 : Hid (bestO (bt xs) n = q) := by unfold Hid; rw [HE.out, hf0]; simp [bestF]
      go_wp2
      go_ret
      exact ⟨_, rfl, by rw [HE2.out]; exact HO.out.mono (by omega), Below.then HB2.out HB.out⟩
    · as_aux_lemma =>
      have hS : S < 2 ^ n := by rw [← HPE.out]; exact hSp
      have hS0 : (0 : Int) < (S : Int) := by omega
      have hSd : decide ((0 : Int) < (S : Int)) = true := decide_eq_true hS0
      obtain ⟨a, ea, hma, hca⟩ := bestF_step HIR.out hS h0
      have HEA := Lib.hid ea
      have HF1 := HF.out
      go_wp2_with fail
      refine (membersOf_any S n wa hS (by omega)).mono ?_
      rintro e w3 ⟨v, rfl, ho, hb3⟩
      obtain ⟨B, d, rfl, hd1, hd2, hl⟩ := memL_cells ho
      unfold maxLen at hd1
      have HL := Lib.hid hl
      have HF3 := Lib.hid (HF.out.below hb3)
      have HO3 := Lib.hid (HO.out.below hb3)
      have HX3 := Lib.hid (HX.out.below hb3)
      have HB3 := Lib.hid (Below.then HB.out hb3)
      have hm8 := memN_len S n
      have hf1 : 0 < f := by rw [← hf]; exact List.length_pos_of_mem hma
      clear hb3 ho hl HF HO HX HB HF1 hca
      rw [hf] at HL hd2 hm8 ⊢
      have hLL := Lib.hid hf
      clear hf
      have HNO : Hid (∀ j, j < 0 → decide ((costN (bt xs) n S ((memN S n).getD j 0) : Int) + (arT (bt xs) n (less S (2 ^ (memN S n).getD j 0))).1 = (arT (bt xs) n S).1) = false) := Lib.hid fun j hj => absurd hj (by omega)
      go_wp2
      go_loopw [5, 6, 26] (fun t5 t6 t26 wr => ∃ (k : Nat), k ≤ f ∧ t26 = .int .i64 k ∧ t6 = .int .i64 S ∧ Hid (∀ j, j < k → decide ((costN (bt xs) n S ((memN S n).getD j 0) : Int) + (arT (bt xs) n (less S (2 ^ (memN S n).getD j 0))).1 = (arT (bt xs) n S).1) = false) ∧ Hid (Own wr w2.heap.size t5 (nI q)) ∧ Hid (Own wr w1.heap.size (.slice (some ⟨g1, 0, none⟩) p p) F) ∧ Hid (TBox wr w.heap.size n (.slice A n cA)) ∧ Hid (Below w3.heap.size w3 wr)) (fun _ _ t26 _ => f - (intOf t26).toNat)
      case atStart => exact ⟨0, by omega, rfl, rfl, HNO, HO3, HF3, HX3, Lib.hid (Below.refl _ _)⟩
      case round =>
        obtain ⟨wk, rfl⟩ : ∃ x, x = wr := ⟨_, rfl⟩
        obtain ⟨k, hk, rfl, rfl, HN, HO, HF, HX, HBk⟩ := hrel
        clear HNO HO3 HF3 HX3
        by_cases hltk : k < f
        · as_aux_lemma =>
          have hkl : k < (memN S n).length := by rw [hLL.out]; exact hltk
          have hmem : (memN S n).getD k 0 ∈ memN S n := by rw [getD_nat hkl]; exact List.getElem_mem hkl
          have ha := (mem_memN.1 hmem).1
          have hS60 : S < 2 ^ 62 := Nat.lt_of_lt_of_le hSp (Nat.le_trans hle (by decide))
          have hRS := less_small hS60 (by omega) hmem
          have hand := andNot_shl S ((memN S n).getD k 0) (by omega) (by omega)
          have hvR := (HA.out.2.2.1 _ (Nat.lt_trans hRS hS)).1
          have hvS := (HA.out.2.2.1 _ hS).1
          have hbR := arT_bound (r := bt xs) (S := less S (2 ^ (memN S n).getD k 0)) HIR.out h8 (less_lt hS)
          have hbS := arT_bound (r := bt xs) (S := S) HIR.out h8 hS
          have hc8 : costN (bt xs) n S ((memN S n).getD k 0) ≤ 8 := Nat.le_trans List.countP_le_length (Nat.le_trans (memN_len S n) h8)
          have hFl : F.length = p := by rw [HPE.out]; exact HA.out.1
          obtain ⟨hcf, -⟩ := HF.out.at0 hFl hP1
          have zr := hcf _ (Nat.lt_trans hRS hSp)
          have zs := hcf S hSp
          rw [hvR] at zr
          rw [hvS] at zs
          have k1 := quiet_below (w := wk) (fun W hW => HCST.out W ((memN S n).getD k 0) S ha hS (Below.then (Below.then HB2.out (Below.then HB3.out HBk.out)) hW))
          obtain ⟨gv, ov, rfl, hgv, hxv⟩ := HL.out (by omega)
          have zv := (HBk.out.cell (by exact hgv)).trans (hxv k hltk)
          have HFI : Hid ((∀ j, j < k + 1 → decide ((costN (bt xs) n S ((memN S n).getD j 0) : Int) + (arT (bt xs) n (less S (2 ^ (memN S n).getD j 0))).1 = (arT (bt xs) n S).1) = false) ∨ (memN S n).find? (fun a => decide ((costN (bt xs) n S a : Int) + (arT (bt xs) n (less S (2 ^ a))).1 = (arT (bt xs) n S).1)) = some ((memN S n).getD k 0)) := by
            unfold Hid
            rcases hq : decide ((costN (bt xs) n S ((memN S n).getD k 0) : Int) + (arT (bt xs) n (less S (2 ^ (memN S n).getD k 0))).1 = (arT (bt xs) n S).1) with _ | _
            · left
              intro j hj
              by_cases e : j = k
              · subst e; exact hq
              · exact HN.out j (by omega)
            · right; exact find_at hkl HN.out hq
          have HFJ : Hid (((costN (bt xs) n S ((memN S n).getD k 0) : Int) + (arT (bt xs) n (less S (2 ^ (memN S n).getD k 0))).1 == (arT (bt xs) n S).1) = true → (memN S n).find? (fun a => decide ((costN (bt xs) n S a : Int) + (arT (bt xs) n (less S (2 ^ a))).1 = (arT (bt xs) n S).1)) = some ((memN S n).getD k 0)) := Lib.hid fun hq => find_at hkl HN.out (by simpa using hq)
          have HFK : Hid (((costN (bt xs) n S ((memN S n).getD k 0) : Int) + (arT (bt xs) n (less S (2 ^ (memN S n).getD k 0))).1 == (arT (bt xs) n S).1) = false → ∀ j, j < k + 1 → decide ((costN (bt xs) n S ((memN S n).getD j 0) : Int) + (arT (bt xs) n (less S (2 ^ (memN S n).getD j 0))).1 = (arT (bt xs) n S).1) = false) := Lib.hid fun hq j hj => by
            by_cases e : j = k
            · subst e; simpa using hq
            · exact HN.out j (by omega)
          have HCL := Lib.hid (card_less hmem)
          have HLT := Lib.hid (less_lt (b := 2 ^ (memN S n).getD k 0) hS)
          clear hcf hvR hvS hmem HFI HN hxv hkl
          generalize (memN S n).getD k 0 = a at *
          have HBM := Lib.hid (fun h => best_more (r := bt xs) (n := n) (S := S) (f := f - 1) (a := a) h)
          generalize hRe : less S (2 ^ a) = R at *
          generalize (arT (bt xs) n R).1 = V at *
          generalize (arT (bt xs) n S).1 = T at *
          generalize costN (bt xs) n S a = C at *
          have y0_0 := HX.out.1
          have y1_0 := HX.out.2
          have c0 := cell_regrown zr
          have c1 := cell_regrown zs
          go_wp2_with fail
          have y0_q := cell_regrown y0_0
          have y1_q := cell_regrown y1_0
          clear y0_0 y1_0
          refine wp_region_below (by kernel_rfl) (by kernel_rfl) ?_
          repeat (go_big_quiet_step (first | (with_reducible exact k1 _ _)))
          refine wpQuiet_nil ?_
          intro wq hbq0
          have hbq := Lib.hid hbq0
          clear hbq0
          clear y0_q y1_q
          have HO4 := Lib.hid (HO.out.below hbq.out)
          have HF4 := Lib.hid (HF.out.below hbq.out)
          have HX4 := Lib.hid (HX.out.below hbq.out)
          have HB4 := Lib.hid (Below.then HBk.out hbq.out)
          clear k1 c0 c1 zr zs zv HO HF HX HBk hbq
          rcases hq : ((C : Int) + V == T) with _ | _
          · as_aux_lemma =>
            have HN4 := Lib.hid (HFK.out hq)
            go_wp2
            go_roundw
            case rel => exact ⟨k + 1, by omega, by go_num, rfl, HN4, HO4, HF4, HX4, HB4⟩
            case measure => simp [intOf]; omega
          · as_aux_lemma =>
            have HFD := Lib.hid (HFJ.out hq)
            have hlq : (nI q).length ≤ 1099511627776 := by rw [nI_len]; omega
            have HB5 := Lib.hid (Below.then HB3.out HB4.out)
            have hsz2 : w2.heap.size ≤ wq.heap.size := HB5.out.size
            have bx0 := below_alloc1 wq (.cells #[.int .i64 a] 3)
            have hO4 := HO4.out
            have HOa := Lib.hid (HO4.out.below bx0)
            have HFa := Lib.hid (HF4.out.below bx0)
            have HXa := Lib.hid (HX4.out.below bx0)
            have HBa := Lib.hid (Below.then HB5.out bx0)
            have hxk : ∀ v : Value, Own wq w2.heap.size v (nI q) → (Value.slice (some ⟨g1, 0, none⟩) p p).ownBlock = none ∨ (Value.slice (some ⟨g1, 0, none⟩) p p).ownBlock ≠ v.ownBlock := fun v hv => .inr fun e => by
              have h1 := (hv.lt g1 e.symm).1
              omega
            have hxb : ∀ v : Value, Own wq w2.heap.size v (nI q) → some w.heap.size ≠ v.ownBlock := fun v hv e => by
              have h1 := (hv.lt _ e.symm).1
              omega
            have hxk2 := hxk _ hO4
            have hxb2 := hxb _ hO4
            clear hxk hxb
            go_wp2_with (at_builtin; refine wp_append1 wq rfl (.tmp 47) (.tmp 49) rfl w2.heap.size _ (nI q) (a : Int) rfl hO4 (by simp [Act.eval]) hlq hsz2 ?_; intro v' w7 ho7 hg7; have HO7 := Lib.hid ho7; have HF7 := Lib.hid (HF4.out.kept hg7 hxk2); have HX7 := Lib.hid (HX4.out.kept hg7 hxb2); have HB7 := Lib.hid (HB5.out.grown hg7 HB5.out.size (fun k hk => by have := (hO4.lt k hk).1; omega)); clear ho7 hg7)
            have hfs : f - 1 + 1 = f := by omega
            have hbm := HBM.out HFD.out
            rw [hfs] at hbm
            have HE7 : Hid (bestO (bt xs) n = (q ++ [a]) ++ bestF (bt xs) n (f - 1) R) := by unfold Hid; rw [HE.out, hbm]; simp
            have hcl := HCL.out
            rw [hLL.out] at hcl
            have hqa : nI (q ++ [a]) = nI q ++ [(a : Int)] := by simp [nI]
            clear hbm
            go_roundw
            case rel => exact ⟨R, f - 1, q ++ [a], by omega, by go_num, by omega, HE7, by simp; omega, by rw [hqa]; exact HO7, HF7, HX7, HB7⟩
            case measure => simp [intOf]; omega
        · as_aux_lemma =>
          obtain rfl : k = f := by omega
          exfalso
          have hj := List.mem_iff_getElem.1 hma
          obtain ⟨i, hi, ei⟩ := hj
          have := HN.out i (by rw [← hLL.out]; exact hi)
          rw [getD_nat hi, ei] at this
          have h2 := List.find?_some HEA.out
          rw [this] at h2
          cases h2
end Go.Proofs.Ytajeledbmnndmaa

namespace Go.Proofs.Ytajeledbmnndmaa
open Go.RowKit Go.Sort

section
variable {P : Program} {ops : Array Oper} {md : Region.Mode} {S : World → Prop} {R : Exit → Act → World → Prop}

/-- whatever order is picked among the first n, with f of them left to do; S holds behind each -/
def pickH (P : Program) (md : Region.Mode) (ops : Array Oper) (R : Exit → Act → World → Prop) (S : World → Prop) (n : Nat) (L : Array Bool → Act → World → Prop) : Nat → Array Bool → Act → World → Prop
  | 0, b, a, w => L b a w
  | f + 1, b, a, w => Region.ready md ops b ≠ [] ∧ ∀ i ∈ Region.ready md ops b, i < n ∧ wpOp P ops R i (fun a' w' => S w' ∧ pickH P md ops R S n L f (b.setIfInBounds i true) a' w') a w

theorem pickH_any {n g : Nat} {L : Array Bool → Act → World → Prop} (hL : ∀ b a w, L b a w → wpAny P md ops R g b a w) (f : Nat) :
    ∀ (b : Array Bool) (a : Act) (w : World), pickH P md ops R S n L f b a w → wpAny P md ops R (f + g) b a w := by
  induction f with
  | zero => intro b a w h; rw [Nat.zero_add]; exact hL _ _ _ h
  | succ f ih =>
    intro b a w h
    rw [show f + 1 + g = (f + g) + 1 by omega]
    exact ⟨fun h0 => absurd h0 h.1, fun i hi => wpOp_mono (fun a' w' h' => ih _ a' w' h'.2) (h.2 i hi).2⟩

theorem pickH_first {n i : Nat} {oi : Oper} {v : Value} {L : Array Bool → Act → World → Prop} (hi : ops[i]? = some oi) (hsel : ∀ (j : Nat) (o : Oper) cs b, ops[j]? = some o → o.op ≠ .select cs b)
    (hs : Region.sinkB md ops n = true) (hc : Region.chainB md ops n = true) (hn : n < ops.size) (hin : i < n) (hdone : ∀ b a w, L b a w → ∀ j ∈ Region.ready md ops b, n ≤ j)
    (hQ : ∀ c a w, R (.panic c) (a.put oi.dst v) w → R (.panic c) a w) (f : Nat) :
    ∀ (b : Array Bool) (a : Act) (w : World), HeadInv md ops n b →
      (∀ j oj, ops[j]? = some oj → j ≠ i → b.getD j true = false → (∀ e ∈ oj.after, Region.binds md e = true → e.on ≠ i) → oi.apart ops oj = true) →
      i ∈ Region.ready md ops b → YieldsIf P ops S oi v a → S w →
      pickH P md ops R S n L f (b.setIfInBounds i true) (a.put oi.dst v) w → pickH P md ops R S n L (f + 1) b a w := by
  induction f with
  | zero =>
    intro b a w inv _ hr hy hS H
    have hun := (mem_ready.1 hr).1
    refine ⟨fun h => (by rw [h] at hr; cases hr), fun j hj => ?_⟩
    have hjn : j < n := Nat.lt_of_not_le fun h => tail_waits hs hc hn inv _ i rfl hin hun j h hj
    by_cases hji : j = i
    · subst hji; exact ⟨hjn, hy.wpOp hi hS ⟨hS, H⟩⟩
    · have := hdone _ _ _ H j (ready_mono hj hji); omega
  | succ f ih =>
    intro b a w inv hfree hr hy hS H
    have hun := (mem_ready.1 hr).1
    refine ⟨fun h => (by rw [h] at hr; cases hr), fun j hj => ?_⟩
    have hjn : j < n := Nat.lt_of_not_le fun h => tail_waits hs hc hn inv _ i rfl hin hun j h hj
    refine ⟨hjn, ?_⟩
    by_cases hji : j = i
    · subst hji; exact hy.wpOp hi hS ⟨hS, H⟩
    · obtain ⟨hjun, oj, hoj, hall⟩ := mem_ready.1 hj
      have hnot : ∀ e ∈ oj.after, Region.binds md e = true → e.on ≠ i := fun e he hb heq => by
        have h1 := hall e he hb
        rw [heq, getD_both hun] at h1
        cases h1
      have h2 := wpOp_putIf hoj (hfree j oj hoj hji hjun hnot) (fun cs b => hsel i oi cs b hi) (fun cs b => hsel j oj cs b hoj) hQ hy (H.2 j (ready_mono hj hji)).2
      refine wpOp_mono (fun a' w' h3 => ⟨h3.2.1, ih (b.setIfInBounds j true) a' w' (inv.set hj hjn) (fun k ok hk hki hun hno => hfree k ok hk hki ?_ hno) (ready_mono hr (Ne.symm hji)) h3.1 h3.2.1 ?_⟩) h2
      · by_cases hjk : j = k
        · subst hjk; exact hjun
        · rw [getD_set_ne true hjk] at hun; exact hun
      · rw [Array.setIfInBounds_comm _ _ hji]
        exact h3.2.2

/-- the walk's goal -/
def GoT (P : Program) (md : Region.Mode) (ops : Array Oper) (R : Exit → Act → World → Prop) (S : World → Prop) (n : Nat) (L : Array Bool → Act → World → Prop) (f : Nat) (b : Array Bool) (a : Act) (w : World) : Prop :=
  HeadInv md ops n b → pickH P md ops R S n L f b a w
/-- what the tail's head must look like -/
def tailL (P : Program) (md : Region.Mode) (ops : Array Oper) (R : Exit → Act → World → Prop) (n g : Nat) (l : List Oper) (b : Array Bool) (a : Act) (w : World) : Prop :=
  Region.seqB md ops g n b = true ∧ wpList P ops R l a w
/-- what is checked of a region once -/
def tailOk (md : Region.Mode) (ops : Array Oper) (n : Nat) : Bool := Region.noSelect ops && Region.sinkB md ops n && Region.chainB md ops n && decide (n < ops.size)

theorem drop_at {l : List Oper} {i : Nat} {o : Oper} {rest : List Oper} (h : l.drop i = o :: rest) : l.toArray[i]? = some o := by
  have := congrArg (fun l => l[0]?) h
  simpa [List.getElem?_drop] using this

/-- the operation is read off 'drop i', so that it stands written out -/
theorem GoT.take {l0 rest : List Oper} {n g f i : Nat} {oi : Oper} {v : Value} {l : List Oper} {b : Array Bool} {a : Act} {w : World} (hd : l0.drop i = oi :: rest) (hok : tailOk md l0.toArray n = true) (hin : decide (i < n) = true)
    (hf : Region.free md l0.toArray b i = true) (hr : (Region.ready md l0.toArray b).contains i = true) (hQ : ∀ c a w, R (.panic c) (a.put oi.dst v) w → R (.panic c) a w) (hy : YieldsIf P l0.toArray S oi v a) (hS : S w)
    (h : GoT P md l0.toArray R S n (tailL P md l0.toArray R n g l) f (b.setIfInBounds i true) (a.put oi.dst v) w) : GoT P md l0.toArray R S n (tailL P md l0.toArray R n g l) (f + 1) b a w := by
  intro inv
  have hi := drop_at hd
  simp only [tailOk, Bool.and_eq_true, decide_eq_true_eq] at hok
  have hr' : i ∈ Region.ready md l0.toArray b := by simpa using hr
  exact pickH_first hi (Region.noSelect_spec hok.1.1.1) hok.1.1.2 hok.1.2 hok.2 (of_decide_eq_true hin) (fun b a w hL => seqB_ready hL.1) hQ f b a w inv (Region.free_spec hi hf) hr' hy hS (h (inv.set hr' (of_decide_eq_true hin)))

/-- the only one that may come up -/
theorem GoT.one {l0 rest : List Oper} {n f i : Nat} {o : Oper} {L : Array Bool → Act → World → Prop} {b : Array Bool} {a : Act} {w : World} (hd : l0.drop i = o :: rest) (hin : decide (i < n) = true) (hr : Region.ready md l0.toArray b = [i])
    (h : ∀ K' : Act → World → Prop, Shut (∀ a w, S w → (S w → GoT P md l0.toArray R S n L f (b.setIfInBounds i true) a w) → K' a w) → if Region.wanted o (yielded l0.toArray a.tmps) = true then Oper.wp P o a w K' R else K' (a.put o.dst undef) w) :
    GoT P md l0.toArray R S n L (f + 1) b a w := by
  intro inv
  have hi := drop_at hd
  have hri : i ∈ Region.ready md l0.toArray b := by rw [hr]; simp
  refine ⟨by rw [hr]; simp, fun j hj => ?_⟩
  have hji : j = i := by rw [hr] at hj; simpa using hj
  subst hji
  exact ⟨of_decide_eq_true hin, wpOp_step hi (fun K' hK => h K' (fun a w hS hW => hK a w ⟨hS, hW hS (inv.set hri (of_decide_eq_true hin))⟩))⟩

theorem GoT.stop {n g : Nat} {l : List Oper} {b : Array Bool} {a : Act} {w : World} (hs : Region.seqB md ops g n b = true) (h : wpList P ops R l a w) : GoT P md ops R S n (tailL P md ops R n g l) 0 b a w := fun _ => ⟨hs, h⟩

theorem wp_region_heldT {id : Nat} {Q : Exit → Act → World → Prop} {a : Act} {w : World} {l : List Oper} (n : Nat) (S : World → Prop) (hm : P.follows .mixedOrders = true) (hok : tailOk .any l.toArray n = true) (hS : S w.drew)
    (h : S w.drew → GoT P .any l.toArray Q S n (tailL P .any l.toArray Q n (l.length - n) (l.drop n)) n (Array.replicate l.toArray.size false) a w.drew) : (Code.region id l.toArray true).wp P Q a w := by
  have hn : n < l.length := by simp only [tailOk, Bool.and_eq_true, decide_eq_true_eq] at hok; simpa using hok.2
  have hdl : (l.drop n).length = l.length - n := by simp
  refine wp_region_any hm ?_
  have H := h hS ⟨by simp, fun j oj _ hl => (by rw [getD_replicate_false] at hl; cases hl), fun t _ ht => getD_in (by simpa using ht) (getD_replicate_false _ _)⟩
  have := pickH_any (R := Q) (g := l.length - n) (fun b a' w' hL => by
    have := wpAny_of_seq (md := .any) (Q' := Q) (l.drop n) n b a' w' (fun j => by simp [List.getElem?_drop]) (by rw [hdl]; exact hL.1) hL.2
    rwa [hdl] at this) _ _ _ _ H
  rw [show n + (l.length - n) = l.toArray.size by simp; omega] at this
  exact this
end
end Go.Proofs.Ytajeledbmnndmaa

namespace Go.Proofs.Ytajeledbmnndmaa
open Go.RowKit Go.Sort
section
variable {P : Program} {md : Region.Mode} {S : World → Prop} {Q : Exit → Act → World → Prop}
theorem hTake {l0 rest : List Oper} {i : Nat} {oi : Oper} {v : Value} {fuel : Nat} {listed : Array Bool} {a : Act} {w : World} (hd : l0.drop i = oi :: rest)
    (hs : Region.noSelect l0.toArray = true) (hf : Region.free md l0.toArray listed i = true) (hr : (Region.ready md l0.toArray listed).contains i = true)
    (hQ : ∀ c a w, Q (.panic c) (a.put oi.dst v) w → Q (.panic c) a w) (hy : YieldsIf P l0.toArray S oi v a) (hS : S w)
    (h : wpAnyH P md l0.toArray Q S fuel (listed.setIfInBounds i true) (a.put oi.dst v) w) : wpAnyH P md l0.toArray Q S (fuel + 1) listed a w :=
  wpAnyH_take (drop_at hd) hs hf hr hQ hy hS h
theorem hSkip {l0 rest : List Oper} {i : Nat} {oi : Oper} {fuel : Nat} {listed : Array Bool} {a : Act} {w : World} (hd : l0.drop i = oi :: rest)
    (hs : Region.noSelect l0.toArray = true) (hf : Region.free md l0.toArray listed i = true) (hr : (Region.ready md l0.toArray listed).contains i = true)
    (hQ : ∀ c a w, Q (.panic c) (a.put oi.dst undef) w → Q (.panic c) a w) (hy : Region.wanted oi (yielded l0.toArray a.tmps) = false) (hS : S w)
    (h : wpAnyH P md l0.toArray Q S fuel (listed.setIfInBounds i true) (a.put oi.dst undef) w) : wpAnyH P md l0.toArray Q S (fuel + 1) listed a w :=
  wpAnyH_take (drop_at hd) hs hf hr hQ (.inr ⟨hy, rfl⟩) hS h
theorem hStep {l0 rest : List Oper} {i : Nat} {o : Oper} {fuel : Nat} {listed : Array Bool} {a : Act} {w : World} {rs : List Nat} (hd : l0.drop i = o :: rest)
    (h : ∀ K' : Act → World → Prop, Shut (∀ a w, S w → (S w → wpAnyH P md l0.toArray Q S fuel (listed.setIfInBounds i true) a w) → K' a w) → if Region.wanted o (yielded l0.toArray a.tmps) = true then Oper.wp P o a w K' Q else K' (a.put o.dst undef) w)
    (hs : AllReadyH P md l0.toArray Q S fuel listed a w rs) : AllReadyH P md l0.toArray Q S fuel listed a w (i :: rs) := AllReadyH.cons (drop_at hd) h hs
end
end Go.Proofs.Ytajeledbmnndmaa

namespace Go.Proofs.Ytajeledbmnndmaa
open Go.RowKit Go.Sort
set_option maxRecDepth 100000
def cardN (S n : Nat) : Nat := (memN S n).length
theorem cardN_succ (S n : Nat) : cardN S (n + 1) = cardN S n + if S.testBit n = true then 1 else 0 := by
  unfold cardN
  rw [memN_succ, List.length_append]
  split <;> simp
theorem card_split {S T : Nat} (h : ∀ c, T.testBit c = true → S.testBit c = true) (n : Nat) : cardN (less S T) n + cardN T n = cardN S n := by
  induction n with
  | zero => simp [cardN, memN]
  | succ n ih =>
    rw [cardN_succ, cardN_succ, cardN_succ, testBit_less]
    have := h n
    cases h1 : S.testBit n <;> cases h2 : T.testBit n <;> simp_all <;> omega
theorem card_pos {S n c : Nat} (hc : c < n) (h : S.testBit c = true) : 1 ≤ cardN S n := List.length_pos_of_mem (mem_memN.2 ⟨hc, h⟩)
theorem card_two {S n c d : Nat} (hc : c < n) (hd : d < n) (h1 : S.testBit c = true) (h2 : S.testBit d = true) (h : c ≠ d) : 2 ≤ cardN S n := by
  have h3 : d ∈ (memN S n).erase c := (List.mem_erase_of_ne (Ne.symm h)).2 (mem_memN.2 ⟨hd, h2⟩)
  have e := List.length_erase_of_mem (mem_memN.2 ⟨hc, h1⟩ : c ∈ memN S n)
  have := List.length_pos_of_mem h3
  unfold cardN; omega
theorem card_uniq {S n : Nat} (h : ∀ c d, c < n → d < n → S.testBit c = true → S.testBit d = true → c = d) : cardN S n ≤ 1 := by
  unfold cardN
  rcases q : memN S n with _ | ⟨a, _ | ⟨b, l⟩⟩
  · simp
  · simp
  · exfalso
    have ha := mem_memN.1 (show a ∈ memN S n by rw [q]; simp)
    have hb := mem_memN.1 (show b ∈ memN S n by rw [q]; simp)
    have := h a b ha.1 hb.1 ha.2 hb.2
    subst this
    have hn := memN_nodup S n
    rw [q] at hn
    simp at hn
theorem card_full (n : Nat) : cardN (2 ^ n - 1) n = n := by
  unfold cardN memN
  rw [List.filter_eq_self.2 fun a ha => by rw [testBit_full]; simpa using ha]
  simp
section
variable {n : Nat} {xs : List Int}
theorem top_ex (hp : tourP n xs) {S : Nat} (hS : S < 2 ^ n) (hc : clo xs S) (h0 : S ≠ 0) : ∃ b, b < n ∧ (topF xs n S).testBit b = true := by
  have hl := tour_len hp
  obtain ⟨a, ha⟩ := Nat.exists_testBit_of_ne_zero h0
  obtain ⟨b, hb, e⟩ := top_some hp (by rw [hl]; exact hS) hc _ a ha (Nat.le_refl _)
  have hbn := bit_lt hS hb
  exact ⟨b, hbn, by rw [testBit_topF]; simp [hbn, hb, e]⟩
theorem rest_n (hp : tourP n xs) {S : Nat} (hS : S < 2 ^ n) (hc : clo xs S) (h0 : S ≠ 0) : less S (topF xs n S) < S ∧ clo xs (less S (topF xs n S)) := by
  have hl := tour_len hp
  have h1 := rest_lt hp (by rw [hl]; exact hS) hc h0
  have h2 := rest_clo hp (by rw [hl]; exact hS) hc
  rw [hl] at h1 h2
  exact ⟨h1, h2⟩
theorem parts_step (hp : tourP n xs) {S : Nat} (hS : S < 2 ^ n) (hc : clo xs S) (h0 : S ≠ 0) : partsN xs S = topF xs n S :: partsN xs (less S (topF xs n S)) := by
  have := partsN_step hp (by rw [tour_len hp]; exact hS) hc h0
  rwa [tour_len hp] at this
theorem parts_card (hp : tourP n xs) : ∀ B S, S < B → S < 2 ^ n → clo xs S → (partsN xs S).length ≤ cardN S n ∧ ((partsN xs S).length = cardN S n → ∀ P ∈ partsN xs S, cardN P n = 1) := by
  intro B
  induction B with
  | zero => intro S h; omega
  | succ B ih =>
    intro S hB hS hc
    by_cases h0 : S = 0
    · subst h0; rw [partsN_zero]; simp
    · obtain ⟨h1, h2⟩ := rest_n hp hS hc h0
      obtain ⟨h3, h4⟩ := ih (less S (topF xs n S)) (by omega) (by omega) h2
      have h5 := card_split (top_sub xs n S) n
      obtain ⟨b, hb, hbt⟩ := top_ex hp hS hc h0
      have h6 := card_pos hb hbt
      rw [parts_step hp hS hc h0, List.length_cons]
      refine ⟨by omega, fun e P hP => ?_⟩
      rcases List.mem_cons.1 hP with rfl | hP
      · omega
      · exact h4 (by omega) P hP
/-- who is in the set is in a part, with all who reach the same -/
theorem parts_mem (hp : tourP n xs) : ∀ B S, S < B → S < 2 ^ n → clo xs S → ∀ c, S.testBit c = true → ∃ P ∈ partsN xs S, P.testBit c = true ∧ ∀ d, d < n → reachN xs d = reachN xs c → P.testBit d = true := by
  intro B
  induction B with
  | zero => intro S h; omega
  | succ B ih =>
    intro S hB hS hc c hcS
    have h0 : S ≠ 0 := fun e => by subst e; simp at hcS
    obtain ⟨h1, h2⟩ := rest_n hp hS hc h0
    rw [parts_step hp hS hc h0]
    by_cases ht : (topF xs n S).testBit c = true
    · refine ⟨_, by simp, ht, fun d hd e => ?_⟩
      rw [testBit_topF] at ht ⊢
      simp only [Bool.and_eq_true, decide_eq_true_eq, beq_iff_eq] at ht ⊢
      have hdd := (reach_facts hp (by rw [tour_len hp]; exact hd) (a := d)).1
      rw [e, ht.2.2] at hdd
      exact ⟨hd, hdd, by rw [e]; exact ht.2.2⟩
    · have hr : (less S (topF xs n S)).testBit c = true := by
        rw [testBit_less, hcS]
        simp only [Bool.not_eq_true] at ht
        rw [ht]; rfl
      obtain ⟨P, hP, h3⟩ := ih (less S (topF xs n S)) (by omega) (by omega) h2 c hr
      exact ⟨P, List.mem_cons_of_mem _ hP, h3⟩
def transP (xs : List Int) (n : Nat) : Prop := ∀ a b c, a < n → b < n → c < n → bt xs a b = true → bt xs b c = true → bt xs a c = true
theorem trans_reach (hp : tourP n xs) (ht : transP xs n) {a c : Nat} (ha : a < n) (h : (reachN xs a).testBit c = true) : c = a ∨ bt xs a c = true := by
  have hl := tour_len hp
  have hT : clo xs (winsN xs a ||| 2 ^ a) := fun b d hb hd => by
    rw [Nat.testBit_or, Nat.testBit_two_pow] at hb ⊢
    simp only [Bool.or_eq_true, decide_eq_true_eq] at hb ⊢
    have hbn : b < n := by
      rcases hb with h | h
      · exact bt_hi hp ha h
      · omega
    have hdn : d < n := bt_hi hp hbn hd
    rcases hb with h | rfl
    · exact .inl (ht a b d ha hbn hdn h hd)
    · exact .inl hd
  have := (reach_facts hp (by rw [hl]; exact ha) (a := a)).2.2.1 _ hT (by rw [Nat.testBit_or, Nat.testBit_two_pow]; simp) c h
  rw [Nat.testBit_or, Nat.testBit_two_pow] at this
  simp only [Bool.or_eq_true, decide_eq_true_eq] at this
  rcases this with h | h
  · exact .inr h
  · exact .inl h.symm
theorem trans_top (hp : tourP n xs) (ht : transP xs n) {S : Nat} (hS : S < 2 ^ n) (hc : clo xs S) (h0 : S ≠ 0) : cardN (topF xs n S) n = 1 := by
  obtain ⟨b, hb, hbt⟩ := top_ex hp hS hc h0
  have h1 := card_pos hb hbt
  have h2 : cardN (topF xs n S) n ≤ 1 := card_uniq fun c d hc' hd' h3 h4 => by
    rw [testBit_topF] at h3 h4
    simp only [Bool.and_eq_true, decide_eq_true_eq, beq_iff_eq] at h3 h4
    rcases trans_reach hp ht hc' (c := d) (by rw [h3.2.2]; exact h4.2.1) with e | e
    · exact e.symm
    · rcases trans_reach hp ht hd' (c := c) (by rw [h4.2.2]; exact h3.2.1) with e' | e'
      · exact e'
      · rw [(bt_asym hp hc' hd' e).1] at e'; cases e'
  omega
theorem trans_parts (hp : tourP n xs) (ht : transP xs n) : ∀ B S, S < B → S < 2 ^ n → clo xs S → (partsN xs S).length = cardN S n := by
  intro B
  induction B with
  | zero => intro S h; omega
  | succ B ih =>
    intro S hB hS hc
    by_cases h0 : S = 0
    · subst h0; rw [partsN_zero]; unfold cardN memN; rw [List.filter_eq_nil_iff.2 (by simp)]
    · obtain ⟨h1, h2⟩ := rest_n hp hS hc h0
      have h3 := ih (less S (topF xs n S)) (by omega) (by omega) h2
      have h5 := card_split (top_sub xs n S) n
      have h6 := trans_top hp ht hS hc h0
      rw [parts_step hp hS hc h0, List.length_cons]
      omega
theorem clo_all (hp : tourP n xs) : clo xs (2 ^ n - 1) := fun b c h hc => by
  rw [testBit_full, decide_eq_true_eq] at h ⊢
  exact bt_hi hp h hc
theorem reach_eq (hp : tourP n xs) {a b : Nat} (ha : a < n) (hb : b < n) (h1 : (reachN xs a).testBit b = true) (h2 : (reachN xs b).testBit a = true) : reachN xs a = reachN xs b := by
  have fa := reach_facts hp (by rw [tour_len hp]; exact ha) (a := a)
  have fb := reach_facts hp (by rw [tour_len hp]; exact hb) (a := b)
  exact sub_eq (fa.2.2.1 _ fb.2.1 h2) (fb.2.2.1 _ fa.2.1 h1)
theorem reach_step (hp : tourP n xs) {a b c : Nat} (ha : a < n) (h : (reachN xs a).testBit b = true) (hbc : bt xs b c = true) : (reachN xs a).testBit c = true :=
  (reach_facts hp (by rw [tour_len hp]; exact ha) (a := a)).2.1 b c h hbc
/-- as many parts as players: the tour is transitive -/
theorem trans_iff (hp : tourP n xs) : (partsN xs (2 ^ n - 1)).length = n ↔ transP xs n := by
  have hlt : 2 ^ n - 1 < 2 ^ n := by have := Nat.one_le_two_pow (n := n); omega
  constructor
  · intro e a b c ha hb hc hab hbc
    have hac : a ≠ c := fun e2 => by subst e2; rw [(bt_asym hp ha hb hab).1] at hbc; cases hbc
    rcases q : bt xs a c with _ | _
    · exfalso
      have hca := (bt_flip hp hc ha (Ne.symm hac)).2 q
      have raa := (reach_facts hp (by rw [tour_len hp]; exact ha) (a := a)).1
      have rbb := (reach_facts hp (by rw [tour_len hp]; exact hb) (a := b)).1
      have r1 := reach_step hp ha raa hab
      have r2 := reach_step hp hb (reach_step hp hb rbb hbc) hca
      have re := reach_eq hp ha hb r1 r2
      obtain ⟨P, hP, h1, h2⟩ := parts_mem hp _ _ (Nat.lt_succ_self _) hlt (clo_all hp) a (by rw [testBit_full]; simp [ha])
      have h3 := h2 b hb re.symm
      have h4 := (parts_card hp _ _ (Nat.lt_succ_self _) hlt (clo_all hp)).2 (by rw [e, card_full]) P hP
      have h5 := card_two ha hb h1 h3 (bt_asym hp ha hb hab).2
      omega
    · rfl
  · intro ht
    rw [trans_parts hp ht _ _ (Nat.lt_succ_self _) hlt (clo_all hp), card_full]
end
end Go.Proofs.Ytajeledbmnndmaa

