/- slices.SortStableFunc beyond 20 elements: swapRange, rotate. -/
import Derived.Test.YtdmneccfbfdloaaSortI
namespace Go.Proofs.Ytdmneccfbfdloaa
open Go.RowKit Go.Sort
set_option maxRecDepth 100000
theorem two_at (A : List Int) (x : Int) (B : List Int) (y : Int) (C : List Int) : (A ++ x :: (B ++ y :: C)).getD A.length 0 = x ∧ (A ++ x :: (B ++ y :: C)).getD (A.length + 1 + B.length) 0 = y := by
  constructor
  · rw [List.getD_eq_getElem?_getD, List.getElem?_append_right (Nat.le_refl _), Nat.sub_self]; rfl
  · rw [List.getD_eq_getElem?_getD, List.getElem?_append_right (by omega), show A.length + 1 + B.length - A.length = B.length + 1 by omega, List.getElem?_cons_succ, List.getElem?_append_right (Nat.le_refl _), Nat.sub_self]; rfl
theorem two_swap (A : List Int) (x : Int) (B : List Int) (y : Int) (C : List Int) : ((A ++ x :: (B ++ y :: C)).set A.length y).set (A.length + 1 + B.length) x = A ++ y :: (B ++ x :: C) := by
  rw [List.set_append_right _ _ (Nat.le_refl _), Nat.sub_self, List.set_cons_zero, List.set_append_right _ _ (by omega), show A.length + 1 + B.length - A.length = B.length + 1 by omega, List.set_cons_succ, List.set_append_right _ _ (Nat.le_refl _), Nat.sub_self, List.set_cons_zero]
/-- behind i swaps -/
def swK (P X Q Y S : List Int) (i : Nat) : List Int := P ++ Y.take i ++ X.drop i ++ Q ++ X.take i ++ Y.drop i ++ S
theorem swK_form (P X Q Y S : List Int) {i : Nat} (hx : i < X.length) (hy : i < Y.length) :
    swK P X Q Y S i = (P ++ Y.take i) ++ X.getD i 0 :: ((X.drop (i + 1) ++ Q ++ X.take i) ++ Y.getD i 0 :: (Y.drop (i + 1) ++ S)) ∧
    swK P X Q Y S (i + 1) = (P ++ Y.take i) ++ Y.getD i 0 :: ((X.drop (i + 1) ++ Q ++ X.take i) ++ X.getD i 0 :: (Y.drop (i + 1) ++ S)) := by
  have e1 : X.drop i = X.getD i 0 :: X.drop (i + 1) := drop_eq' hx
  have e2 : Y.drop i = Y.getD i 0 :: Y.drop (i + 1) := drop_eq' hy
  have e3 : X.take (i + 1) = X.take i ++ [X.getD i 0] := by rw [List.take_succ_eq_append_getElem hx, show X.getD i 0 = X[i] by simp [hx]]
  have e4 : Y.take (i + 1) = Y.take i ++ [Y.getD i 0] := by rw [List.take_succ_eq_append_getElem hy, show Y.getD i 0 = Y[i] by simp [hy]]
  unfold swK
  rw [e1, e2, e3, e4]
  constructor <;> simp
theorem swK_zero (P X Q Y S : List Int) : swK P X Q Y S 0 = P ++ X ++ Q ++ Y ++ S := by simp [swK]
theorem swK_end (P X Q Y S : List Int) {k : Nat} (hx : X.length = k) (hy : Y.length = k) : swK P X Q Y S k = P ++ Y ++ Q ++ X ++ S := by
  unfold swK
  rw [List.take_of_length_le (by omega), List.drop_eq_nil_of_le (by omega), List.take_of_length_le (by omega), List.drop_eq_nil_of_le (by omega)]; simp
set_option maxHeartbeats 4000000 in
theorem swapRange_any (f : Value) (P X Q Y S : List Int) (a b k n base g c : Nat) (w : World) (hP : P.length = a) (hX : X.length = k) (hQ : a + k + Q.length = b) (hY : Y.length = k) (hn : n ≤ 1000) (hln : b + k ≤ n) (hl : (P ++ X ++ Q ++ Y ++ S).length = n) (hbase : base ≤ w.heap.size)
    (h : Own w base (.slice (some ⟨g, 0, none⟩) n c) (P ++ X ++ Q ++ Y ++ S)) :
    Calls Try.prog 83 #[.slice (some ⟨g, 0, none⟩) n c, .int .i64 a, .int .i64 b, .int .i64 k, f] w fun e w' => e = .returned (.tuple #[]) ∧ Own w' base (.slice (some ⟨g, 0, none⟩) n c) (P ++ Y ++ Q ++ X ++ S) ∧ Below base w w' := by
  have hg := (h.lt g rfl)
  have HS : Hid (∀ i, (swK P X Q Y S i).length = n) := fun i => by
    have h1 : (swK P X Q Y S i).length = P.length + min i Y.length + (X.length - i) + Q.length + min i X.length + (Y.length - i) + S.length := by unfold swK; simp; omega
    have h2 : (P ++ X ++ Q ++ Y ++ S).length = P.length + X.length + Q.length + Y.length + S.length := by simp; omega
    omega
  have HO0 := Lib.hid h
  have H0 := Lib.hid (swK_zero P X Q Y S)
  have HE := Lib.hid (swK_end P X Q Y S hX hY)
  have HP := Lib.hid hP
  have HX := Lib.hid hX
  have HY := Lib.hid hY
  have HQ := Lib.hid hQ
  have hkb : a + k ≤ b := by omega
  clear h hl hP hX hY hQ
  go_enter Try.func83, Try.ntmps83
  go_wp2
  go_loopw [10] (fun i wr => ∃ j : Nat, j ≤ k ∧ i = .int .i64 j ∧ Hid (Own wr base (.slice (some ⟨g, 0, none⟩) n c) (swK P X Q Y S j)) ∧ Hid (Below base w wr)) (fun i _ => k - (intOf i).toNat)
  case atStart => exact ⟨0, by omega, rfl, by rw [H0.out]; exact HO0.out, (Below.refl _ _).mono hbase⟩
  case round =>
    obtain ⟨wo, rfl⟩ : ∃ x, x = wr := ⟨_, rfl⟩
    obtain ⟨j, hj, rfl, HO, HB⟩ := hrel
    by_cases hlt : j < k
    · obtain ⟨F1, F2⟩ := swK_form P X Q Y S (i := j) (by rw [HX.out]; exact hlt) (by rw [HY.out]; exact hlt)
      have hA : (P ++ Y.take j).length = a + j := by rw [List.length_append, HP.out, List.length_take, HY.out]; omega
      have hBl : a + j + 1 + (X.drop (j + 1) ++ Q ++ X.take j).length = b + j := by
        have := HQ.out
        rw [List.length_append, List.length_append, List.length_drop, List.length_take, HX.out]; omega
      have T := two_at (P ++ Y.take j) (X.getD j 0) (X.drop (j + 1) ++ Q ++ X.take j) (Y.getD j 0) (Y.drop (j + 1) ++ S)
      have U := two_swap (P ++ Y.take j) (X.getD j 0) (X.drop (j + 1) ++ Q ++ X.take j) (Y.getD j 0) (Y.drop (j + 1) ++ S)
      rw [← F1, hA, hBl] at T U
      rw [← F2] at U
      have HU := Lib.hid U
      have hlM := HS.out j
      obtain ⟨hxc, hfz⟩ := HO.out.at1 hlM (by omega)
      have z0 := hxc (a + j) (by omega)
      have z1 := hxc (b + j) (by omega)
      rw [T.1] at z0
      rw [T.2] at z1
      have f0 := hfz (a + j)
      have f1 := hfz (b + j)
      have O3 := (HO.out.set_ hlM (a + j) (Y.getD j 0)).1
      have hlM2 : ((swK P X Q Y S j).set (a + j) (Y.getD j 0)).length = n := by rw [List.length_set]; exact hlM
      have O4 := Lib.hid (O3.set_ hlM2 (b + j) (X.getD j 0)).1
      rw [HU.out] at O4
      generalize X.getD j 0 = x at *
      generalize Y.getD j 0 = y at *
      have HB4 := Lib.hid ((HB.out.setCell (p := ⟨g, a + j, none⟩) hg.1 (.int .i64 y)).setCell (p := ⟨g, b + j, none⟩) hg.1 (.int .i64 x))
      clear O3 hxc hfz F1 F2 hA hBl T U HU hlM hlM2
      have i0 : (0 : Int) ≤ (a : Int) + (j : Int) := by omega
      have i1 : (0 : Int) ≤ (b : Int) + (j : Int) := by omega
      have i2 : (a : Int) + (j : Int) < (n : Int) := by omega
      have i3 : (b : Int) + (j : Int) < (n : Int) := by omega
      have i4 : a + j < n := by omega
      have i5 : b + j < n := by omega
      have t0 : IntKind.i64.wrap ((a : Int) + (j : Int)) = (a : Int) + (j : Int) := IntWalk.i64_in _ (by omega)
      have t1 : IntKind.i64.wrap ((b : Int) + (j : Int)) = (b : Int) + (j : Int) := IntWalk.i64_in _ (by omega)
      have t2 : ((a : Int) + (j : Int)).toNat = a + j := by omega
      have t3 : ((b : Int) + (j : Int)).toNat = b + j := by omega
      go_wp2_with fail
      go_region_law (fail)
      all_goals
        have HO5 : Hid (Own ((wo.setCell ⟨g, a + j, none⟩ (.int .i64 y)).setCell ⟨g, b + j, none⟩ (.int .i64 x)).drew base (.slice (some ⟨g, 0, none⟩) n c) (swK P X Q Y S (j + 1))) := O4.out
        have HB5 : Hid (Below base w ((wo.setCell ⟨g, a + j, none⟩ (.int .i64 y)).setCell ⟨g, b + j, none⟩ (.int .i64 x)).drew) := ⟨HB4.out.os, HB4.out.tape, HB4.out.output, HB4.out.size, HB4.out.block⟩
        clear z0 z1 f0 f1 t0 t1 t2 t3 i0 i1 i2 i3 i4 i5
        generalize ((wo.setCell ⟨g, a + j, none⟩ (.int .i64 y)).setCell ⟨g, b + j, none⟩ (.int .i64 x)).drew = w9 at HO5 HB5 ⊢
        go_wp2
        go_roundw
        case rel => exact ⟨j + 1, by omega, by go_num, HO5.out, HB5.out⟩
        case measure => simp [intOf]; omega
    · obtain rfl : j = k := by omega
      have HF := Lib.hid HO.out
      rw [HE.out] at HF
      go_wp2
      go_end0
      exact ⟨rfl, HF.out, HB.out⟩
end Go.Proofs.Ytdmneccfbfdloaa
