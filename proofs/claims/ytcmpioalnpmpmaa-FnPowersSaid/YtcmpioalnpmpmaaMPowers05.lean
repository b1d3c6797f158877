/- Texts put together: OrdS, SortM, SortR, SymA. -/
import Derived.Test.YtcmpioalnpmpmaaMPowers04
namespace Go.Proofs.Ytcmpioalnpmpmaa
set_option maxRecDepth 100000
def kOf (L : List Int) (x : Int) : Int := - L.getD x.toNat 0
theorem idsL_lt (n : Nat) : (idsL n).Pairwise (· < ·) := by
  unfold idsL
  rw [List.pairwise_map]
  exact List.pairwise_lt_range.imp fun h => by omega
theorem ordK_sorted (L : List Int) (n : Nat) : (ordK L n).Pairwise (LtK (kOf L)) ∧ (ordK L n).Perm (idsL n) := by
  unfold ordK
  refine sortR_sorted (idsL n) (fun x _ y _ => ?_) (idsL_lt n)
  unfold befK kOf
  rw [decide_eq_decide]
  omega
end Go.Proofs.Ytcmpioalnpmpmaa

namespace Go.Proofs.Ytcmpioalnpmpmaa
open Go.RowKit Go.Sort
set_option maxRecDepth 100000
theorem two_at (A : List Int) (x : Int) (B : List Int) (y : Int) (C : List Int) : (A ++ x :: (B ++ y :: C)).getD A.length 0 = x ∧ (A ++ x :: (B ++ y :: C)).getD (A.length + 1 + B.length) 0 = y := by
  constructor
  · rw [List.getD_eq_getElem?_getD, List.getElem?_append_right (Nat.le_refl _), Nat.sub_self]; rfl
  · rw [List.getD_eq_getElem?_getD, List.getElem?_append_right (by omega), show A.length + 1 + B.length - A.length = B.length + 1 by omega, List.getElem?_cons_succ, List.getElem?_append_right (Nat.le_refl _), Nat.sub_self]; rfl
theorem two_swap (A : List Int) (x : Int) (B : List Int) (y : Int) (C : List Int) : ((A ++ x :: (B ++ y :: C)).set A.length y).set (A.length + 1 + B.length) x = A ++ y :: (B ++ x :: C) := by
  rw [List.set_append_right _ _ (Nat.le_refl _), Nat.sub_self, List.set_cons_zero, List.set_append_right _ _ (by omega), show A.length + 1 + B.length - A.length = B.length + 1 by omega, List.set_cons_succ, List.set_append_right _ _ (Nat.le_refl _), Nat.sub_self, List.set_cons_zero]
/-- behind i swaps -/
def swK (P X Q Y S : List Int) (i : Nat) : List Int := P ++ Y.take i ++ X.drop i ++ Q ++ X.take i ++ Y.drop i ++ S
theorem swK_form (P X Q Y S : List Int) {i : Nat} (hx : i < X.length) (hy : i < Y.length) :
    swK P X Q Y S i = (P ++ Y.take i) ++ X.getD i 0 :: ((X.drop (i + 1) ++ Q ++ X.take i) ++ Y.getD i 0 :: (Y.drop (i + 1) ++ S)) ∧
    swK P X Q Y S (i + 1) = (P ++ Y.take i) ++ Y.getD i 0 :: ((X.drop (i + 1) ++ Q ++ X.take i) ++ X.getD i 0 :: (Y.drop (i + 1) ++ S)) := by
  have e1 : X.drop i = X.getD i 0 :: X.drop (i + 1) := drop_eq' hx
  have e2 : Y.drop i = Y.getD i 0 :: Y.drop (i + 1) := drop_eq' hy
  have e3 : X.take (i + 1) = X.take i ++ [X.getD i 0] := by rw [List.take_succ_eq_append_getElem hx, show X.getD i 0 = X[i] by simp [hx]]
  have e4 : Y.take (i + 1) = Y.take i ++ [Y.getD i 0] := by rw [List.take_succ_eq_append_getElem hy, show Y.getD i 0 = Y[i] by simp [hy]]
  unfold swK
  rw [e1, e2, e3, e4]
  constructor <;> simp
theorem swK_zero (P X Q Y S : List Int) : swK P X Q Y S 0 = P ++ X ++ Q ++ Y ++ S := by simp [swK]
theorem swK_end (P X Q Y S : List Int) {k : Nat} (hx : X.length = k) (hy : Y.length = k) : swK P X Q Y S k = P ++ Y ++ Q ++ X ++ S := by
  unfold swK
  rw [List.take_of_length_le (by omega), List.drop_eq_nil_of_le (by omega), List.take_of_length_le (by omega), List.drop_eq_nil_of_le (by omega)]; simp
set_option maxHeartbeats 4000000 in
theorem swapRange_any (f : Value) (P X Q Y S : List Int) (a b k n base g c : Nat) (w : World) (hP : P.length = a) (hX : X.length = k) (hQ : a + k + Q.length = b) (hY : Y.length = k) (hn : n ≤ 1000) (hln : b + k ≤ n) (hl : (P ++ X ++ Q ++ Y ++ S).length = n) (hbase : base ≤ w.heap.size)
    (h : Own w base (.slice (some ⟨g, 0, none⟩) n c) (P ++ X ++ Q ++ Y ++ S)) :
    Calls Try.prog 163 #[.slice (some ⟨g, 0, none⟩) n c, .int .i64 a, .int .i64 b, .int .i64 k, f] w fun e w' => e = .returned (.tuple #[]) ∧ Own w' base (.slice (some ⟨g, 0, none⟩) n c) (P ++ Y ++ Q ++ X ++ S) ∧ Below base w w' := by
  have hg := (h.lt g rfl)
  have HS : Hid (∀ i, (swK P X Q Y S i).length = n) := fun i => by
    have h1 : (swK P X Q Y S i).length = P.length + min i Y.length + (X.length - i) + Q.length + min i X.length + (Y.length - i) + S.length := by unfold swK; simp; omega
    have h2 : (P ++ X ++ Q ++ Y ++ S).length = P.length + X.length + Q.length + Y.length + S.length := by simp; omega
    omega
  have HO0 := Lib.hid h
  have H0 := Lib.hid (swK_zero P X Q Y S)
  have HE := Lib.hid (swK_end P X Q Y S hX hY)
  have HP := Lib.hid hP
  have HX := Lib.hid hX
  have HY := Lib.hid hY
  have HQ := Lib.hid hQ
  have hkb : a + k ≤ b := by omega
  clear h hl hP hX hY hQ
  go_enter Try.func163, Try.ntmps163
  go_wp2
  go_loopw [10] (fun i wr => ∃ j : Nat, j ≤ k ∧ i = .int .i64 j ∧ Hid (Own wr base (.slice (some ⟨g, 0, none⟩) n c) (swK P X Q Y S j)) ∧ Hid (Below base w wr)) (fun i _ => k - (intOf i).toNat)
  case atStart => exact ⟨0, by omega, rfl, by rw [H0.out]; exact HO0.out, (Below.refl _ _).mono hbase⟩
  case round =>
    obtain ⟨wo, rfl⟩ : ∃ x, x = wr := ⟨_, rfl⟩
    obtain ⟨j, hj, rfl, HO, HB⟩ := hrel
    by_cases hlt : j < k
    · obtain ⟨F1, F2⟩ := swK_form P X Q Y S (i := j) (by rw [HX.out]; exact hlt) (by rw [HY.out]; exact hlt)
      have hA : (P ++ Y.take j).length = a + j := by rw [List.length_append, HP.out, List.length_take, HY.out]; omega
      have hBl : a + j + 1 + (X.drop (j + 1) ++ Q ++ X.take j).length = b + j := by
        have := HQ.out
        rw [List.length_append, List.length_append, List.length_drop, List.length_take, HX.out]; omega
      have T := two_at (P ++ Y.take j) (X.getD j 0) (X.drop (j + 1) ++ Q ++ X.take j) (Y.getD j 0) (Y.drop (j + 1) ++ S)
      have U := two_swap (P ++ Y.take j) (X.getD j 0) (X.drop (j + 1) ++ Q ++ X.take j) (Y.getD j 0) (Y.drop (j + 1) ++ S)
      rw [← F1, hA, hBl] at T U
      rw [← F2] at U
      have HU := Lib.hid U
      have hlM := HS.out j
      obtain ⟨hxc, hfz⟩ := HO.out.at1 hlM (by omega)
      have z0 := hxc (a + j) (by omega)
      have z1 := hxc (b + j) (by omega)
      rw [T.1] at z0
      rw [T.2] at z1
      have f0 := hfz (a + j)
      have f1 := hfz (b + j)
      have O3 := (HO.out.set_ hlM (a + j) (Y.getD j 0)).1
      have hlM2 : ((swK P X Q Y S j).set (a + j) (Y.getD j 0)).length = n := by rw [List.length_set]; exact hlM
      have O4 := Lib.hid (O3.set_ hlM2 (b + j) (X.getD j 0)).1
      rw [HU.out] at O4
      generalize X.getD j 0 = x at *
      generalize Y.getD j 0 = y at *
      have HB4 := Lib.hid ((HB.out.setCell (p := ⟨g, a + j, none⟩) hg.1 (.int .i64 y)).setCell (p := ⟨g, b + j, none⟩) hg.1 (.int .i64 x))
      clear O3 hxc hfz F1 F2 hA hBl T U HU hlM hlM2
      have i0 : (0 : Int) ≤ (a : Int) + (j : Int) := by omega
      have i1 : (0 : Int) ≤ (b : Int) + (j : Int) := by omega
      have i2 : (a : Int) + (j : Int) < (n : Int) := by omega
      have i3 : (b : Int) + (j : Int) < (n : Int) := by omega
      have i4 : a + j < n := by omega
      have i5 : b + j < n := by omega
      have t0 : IntKind.i64.wrap ((a : Int) + (j : Int)) = (a : Int) + (j : Int) := IntWalk.i64_in _ (by omega)
      have t1 : IntKind.i64.wrap ((b : Int) + (j : Int)) = (b : Int) + (j : Int) := IntWalk.i64_in _ (by omega)
      have t2 : ((a : Int) + (j : Int)).toNat = a + j := by omega
      have t3 : ((b : Int) + (j : Int)).toNat = b + j := by omega
      go_wp2_with fail
      go_region_law (fail)
      all_goals
        have HO5 : Hid (Own ((wo.setCell ⟨g, a + j, none⟩ (.int .i64 y)).setCell ⟨g, b + j, none⟩ (.int .i64 x)).drew base (.slice (some ⟨g, 0, none⟩) n c) (swK P X Q Y S (j + 1))) := O4.out
        have HB5 : Hid (Below base w ((wo.setCell ⟨g, a + j, none⟩ (.int .i64 y)).setCell ⟨g, b + j, none⟩ (.int .i64 x)).drew) := ⟨HB4.out.os, HB4.out.tape, HB4.out.output, HB4.out.size, HB4.out.block⟩
        clear z0 z1 f0 f1 t0 t1 t2 t3 i0 i1 i2 i3 i4 i5
        generalize ((wo.setCell ⟨g, a + j, none⟩ (.int .i64 y)).setCell ⟨g, b + j, none⟩ (.int .i64 x)).drew = w9 at HO5 HB5 ⊢
        go_wp2
        go_roundw
        case rel => exact ⟨j + 1, by omega, by go_num, HO5.out, HB5.out⟩
        case measure => simp [intOf]; omega
    · obtain rfl : j = k := by omega
      have HF := Lib.hid HO.out
      rw [HE.out] at HF
      go_wp2
      go_end0
      exact ⟨rfl, HF.out, HB.out⟩
end Go.Proofs.Ytcmpioalnpmpmaa

namespace Go.Proofs.Ytcmpioalnpmpmaa
open Go.RowKit Go.Sort
set_option maxRecDepth 100000
/-- what a round of rotate keeps -/
def RotI (P X Y S : List Int) (a m b : Nat) (C U V D : List Int) (i j : Nat) : Prop :=
  U.length = i ∧ V.length = j ∧ a + C.length + i = m ∧ m + j + D.length = b ∧ P ++ C ++ V ++ U ++ D ++ S = P ++ Y ++ X ++ S
theorem rot_lt (f : Value) (P X Y S C U V D : List Int) (a m b i j n base g c : Nat) (w : World) (hP : P.length = a) (hI : RotI P X Y S a m b C U V D i j) (hlt : i < j) (hn : n ≤ 1000) (hln : b ≤ n) (hl : (P ++ C ++ U ++ V ++ D ++ S).length = n) (hbase : base ≤ w.heap.size)
    (h : Own w base (.slice (some ⟨g, 0, none⟩) n c) (P ++ C ++ U ++ V ++ D ++ S)) :
    Calls Try.prog 163 #[.slice (some ⟨g, 0, none⟩) n c, .int .i64 ((m : Int) - i), .int .i64 ((m : Int) + j - i), .int .i64 i, f] w fun e w' => e = .returned (.tuple #[]) ∧ ∃ C2 U2 V2 D2, RotI P X Y S a m b C2 U2 V2 D2 i (j - i) ∧ Own w' base (.slice (some ⟨g, 0, none⟩) n c) (P ++ C2 ++ U2 ++ V2 ++ D2 ++ S) ∧ Below base w w' := by
  obtain ⟨hu, hv, hc, hd, ht⟩ := hI
  obtain ⟨V1, V2, rfl, hv2⟩ : ∃ V1 V2, V = V1 ++ V2 ∧ V2.length = i := ⟨V.take (V.length - i), V.drop (V.length - i), (List.take_append_drop _ _).symm, by rw [List.length_drop]; omega⟩
  rw [List.length_append] at hv
  have SW := swapRange_any f (P ++ C) U V1 V2 (D ++ S) (a + C.length) (m + V1.length) i n base g c w (by rw [List.length_append, hP]) hu (by omega) hv2 hn (by omega) (by rw [← hl]; simp [List.append_assoc]) hbase (by simpa [List.append_assoc] using h)
  rw [show ((a + C.length : Nat) : Int) = (m : Int) - i by omega, show ((m + V1.length : Nat) : Int) = (m : Int) + j - i by omega] at SW
  refine SW.mono ?_
  rintro e w' ⟨rfl, ho, hb⟩
  exact ⟨rfl, C, V2, V1, U ++ D, ⟨hv2, by omega, hc, by simp; omega, by rw [← ht]; simp [List.append_assoc]⟩, by simpa [List.append_assoc] using ho, hb⟩
theorem rot_gt (f : Value) (P X Y S C U V D : List Int) (a m b i j n base g c : Nat) (w : World) (hP : P.length = a) (hI : RotI P X Y S a m b C U V D i j) (hlt : j < i) (hn : n ≤ 1000) (hln : b ≤ n) (hl : (P ++ C ++ U ++ V ++ D ++ S).length = n) (hbase : base ≤ w.heap.size)
    (h : Own w base (.slice (some ⟨g, 0, none⟩) n c) (P ++ C ++ U ++ V ++ D ++ S)) :
    Calls Try.prog 163 #[.slice (some ⟨g, 0, none⟩) n c, .int .i64 ((m : Int) - i), .int .i64 m, .int .i64 j, f] w fun e w' => e = .returned (.tuple #[]) ∧ ∃ C2 U2 V2 D2, RotI P X Y S a m b C2 U2 V2 D2 (i - j) j ∧ Own w' base (.slice (some ⟨g, 0, none⟩) n c) (P ++ C2 ++ U2 ++ V2 ++ D2 ++ S) ∧ Below base w w' := by
  obtain ⟨hu, hv, hc, hd, ht⟩ := hI
  obtain ⟨U1, U2, rfl, hu1⟩ : ∃ U1 U2, U = U1 ++ U2 ∧ U1.length = j := ⟨U.take j, U.drop j, (List.take_append_drop _ _).symm, by rw [List.length_take]; omega⟩
  rw [List.length_append] at hu
  have SW := swapRange_any f (P ++ C) U1 U2 V (D ++ S) (a + C.length) m j n base g c w (by rw [List.length_append, hP]) hu1 (by omega) hv hn (by omega) (by rw [← hl]; simp [List.append_assoc]) hbase (by simpa [List.append_assoc] using h)
  rw [show ((a + C.length : Nat) : Int) = (m : Int) - i by omega] at SW
  refine SW.mono ?_
  rintro e w' ⟨rfl, ho, hb⟩
  exact ⟨rfl, C ++ V, U2, U1, D, ⟨by omega, hu1, by simp; omega, by omega, by rw [← ht]; simp [List.append_assoc]⟩, by simpa [List.append_assoc] using ho, hb⟩
theorem rot_eq (f : Value) (P X Y S C U V D : List Int) (a m b i n base g c : Nat) (w : World) (hP : P.length = a) (hI : RotI P X Y S a m b C U V D i i) (hn : n ≤ 1000) (hln : b ≤ n) (hl : (P ++ C ++ U ++ V ++ D ++ S).length = n) (hbase : base ≤ w.heap.size)
    (h : Own w base (.slice (some ⟨g, 0, none⟩) n c) (P ++ C ++ U ++ V ++ D ++ S)) :
    Calls Try.prog 163 #[.slice (some ⟨g, 0, none⟩) n c, .int .i64 ((m : Int) - i), .int .i64 m, .int .i64 i, f] w fun e w' => e = .returned (.tuple #[]) ∧ Own w' base (.slice (some ⟨g, 0, none⟩) n c) (P ++ Y ++ X ++ S) ∧ Below base w w' := by
  obtain ⟨hu, hv, hc, hd, ht⟩ := hI
  have SW := swapRange_any f (P ++ C) U [] V (D ++ S) (a + C.length) m i n base g c w (by rw [List.length_append, hP]) hu (by simp; omega) hv hn (by omega) (by rw [← hl]; simp [List.append_assoc]) hbase (by simpa [List.append_assoc] using h)
  rw [show ((a + C.length : Nat) : Int) = (m : Int) - i by omega] at SW
  refine SW.mono ?_
  rintro e w' ⟨rfl, ho, hb⟩
  exact ⟨rfl, by rw [← ht]; simpa [List.append_assoc] using ho, hb⟩
set_option maxHeartbeats 4000000 in
theorem rotate_any (f : Value) (P X Y S : List Int) (a m b n base g c : Nat) (w : World) (hP : P.length = a) (hX : a + X.length = m) (hY : m + Y.length = b) (h1 : a < m) (h2 : m < b) (hn : n ≤ 1000) (hln : b ≤ n) (hl : (P ++ X ++ Y ++ S).length = n) (hbase : base ≤ w.heap.size)
    (h : Own w base (.slice (some ⟨g, 0, none⟩) n c) (P ++ X ++ Y ++ S)) :
    Calls Try.prog 162 #[.slice (some ⟨g, 0, none⟩) n c, .int .i64 a, .int .i64 m, .int .i64 b, f] w fun e w' => e = .returned (.tuple #[]) ∧ Own w' base (.slice (some ⟨g, 0, none⟩) n c) (P ++ Y ++ X ++ S) ∧ Below base w w' := by
  have HO0 := Lib.hid h
  have HP := Lib.hid hP
  have HX := Lib.hid hX
  have HY := Lib.hid hY
  have HLn := Lib.hid hl
  clear h hl hP hX hY
  have w0 : IntKind.i64.wrap ((m : Int) - (a : Int)) = (m : Int) - (a : Int) := IntWalk.i64_in _ (by omega)
  have w1 : IntKind.i64.wrap ((b : Int) - (m : Int)) = (b : Int) - (m : Int) := IntWalk.i64_in _ (by omega)
  go_enter Try.func162, Try.ntmps162
  go_wp2
  go_loopw [10, 11] (fun i j wr => ∃ i' j' : Nat, ∃ C U V D : List Int, i = .int .i64 i' ∧ j = .int .i64 j' ∧ 1 ≤ i' ∧ 1 ≤ j' ∧ a + i' ≤ m ∧ m + j' ≤ b ∧ Hid (RotI P X Y S a m b C U V D i' j') ∧ Hid (Own wr base (.slice (some ⟨g, 0, none⟩) n c) (P ++ C ++ U ++ V ++ D ++ S)) ∧ Hid (Below base w wr)) (fun i j _ => (intOf i).toNat + (intOf j).toNat)
  case atStart =>
    have hX := HX.out
    have hY := HY.out
    exact ⟨m - a, b - m, [], X, Y, [], by rw [show ((m - a : Nat) : Int) = (m : Int) - (a : Int) by omega], by rw [show ((b - m : Nat) : Int) = (b : Int) - (m : Int) by omega], by omega, by omega, by omega, by omega, Lib.hid ⟨by omega, by omega, by simp; omega, by simp; omega, by simp⟩, Lib.hid (by simpa using HO0.out), Lib.hid ((Below.refl _ _).mono hbase)⟩
  case round =>
    obtain ⟨wo, rfl⟩ : ∃ x, x = wr := ⟨_, rfl⟩
    obtain ⟨i, j, C, U, V, D, rfl, rfl, u1, v1, him, hjb, HI, HO, HB⟩ := hrel
    clear w0 w1 HO0
    have HLn2 : Hid ((P ++ C ++ U ++ V ++ D ++ S).length = n) := by
      refine Lib.hid ?_
      have h1 := congrArg List.length HI.out.2.2.2.2
      have h2 := HLn.out
      simp only [List.length_append] at h1 h2 ⊢
      omega
    rcases Nat.lt_trichotomy i j with hlt | heq | hgt
    · have HSW := Lib.hid (rot_lt f P X Y S C U V D a m b i j n base g c wo HP.out HI.out hlt hn hln HLn2.out (by have := HB.out.size; omega) HO.out)
      clear HI HO HLn2
      have d0 : decide ((i : Int) = (j : Int)) = false := by simp; omega
      have d1 : decide ((j : Int) < (i : Int)) = false := by simp; omega
      have t0 : IntKind.i64.wrap ((m : Int) - (i : Int)) = (m : Int) - (i : Int) := IntWalk.i64_in _ (by omega)
      have t1 : IntKind.i64.wrap ((m : Int) + (j : Int)) = (m : Int) + (j : Int) := IntWalk.i64_in _ (by omega)
      have t2 : IntKind.i64.wrap ((m : Int) + (j : Int) - (i : Int)) = (m : Int) + (j : Int) - (i : Int) := IntWalk.i64_in _ (by omega)
      have t3 : IntKind.i64.wrap ((j : Int) - (i : Int)) = (j : Int) - (i : Int) := IntWalk.i64_in _ (by omega)
      go_wp2_with fail
      refine HSW.out.mono ?_
      rintro e w9 ⟨rfl, C2, U2, V2, D2, hi2, ho9, hb9⟩
      have HI2 := Lib.hid hi2
      have HO9 := Lib.hid ho9
      have HB9 := Lib.hid ((HB.out).trans hb9)
      clear ho9 hb9 hi2 HSW HB
      go_wp2_with fail
      go_roundw
      case rel => exact ⟨i, j - i, C2, U2, V2, D2, rfl, by rw [show ((j - i : Nat) : Int) = (j : Int) - (i : Int) by omega], by omega, by omega, by omega, by omega, HI2, HO9, HB9⟩
      case measure => simp [intOf]; omega
    · subst heq
      have HSW := Lib.hid (rot_eq f P X Y S C U V D a m b i n base g c wo HP.out HI.out hn hln HLn2.out (by have := HB.out.size; omega) HO.out)
      clear HI HO HLn2
      have t0 : IntKind.i64.wrap ((m : Int) - (i : Int)) = (m : Int) - (i : Int) := IntWalk.i64_in _ (by omega)
      go_wp2_with fail
      refine HSW.out.mono ?_
      rintro e w9 ⟨rfl, ho9, hb9⟩
      have HO9 := Lib.hid ho9
      have HB9 := Lib.hid ((HB.out).trans hb9)
      clear ho9 hb9 HSW HB
      go_wp2_with fail
      go_end0
      exact ⟨rfl, HO9.out, HB9.out⟩
    · have HSW := Lib.hid (rot_gt f P X Y S C U V D a m b i j n base g c wo HP.out HI.out hgt hn hln HLn2.out (by have := HB.out.size; omega) HO.out)
      clear HI HO HLn2
      have d0 : decide ((i : Int) = (j : Int)) = false := by simp; omega
      have d1 : decide ((j : Int) < (i : Int)) = true := by simp; omega
      have t0 : IntKind.i64.wrap ((m : Int) - (i : Int)) = (m : Int) - (i : Int) := IntWalk.i64_in _ (by omega)
      have t3 : IntKind.i64.wrap ((i : Int) - (j : Int)) = (i : Int) - (j : Int) := IntWalk.i64_in _ (by omega)
      go_wp2_with fail
      refine HSW.out.mono ?_
      rintro e w9 ⟨rfl, C2, U2, V2, D2, hi2, ho9, hb9⟩
      have HI2 := Lib.hid hi2
      have HO9 := Lib.hid ho9
      have HB9 := Lib.hid ((HB.out).trans hb9)
      clear ho9 hb9 hi2 HSW HB
      go_wp2_with fail
      go_roundw
      case rel => exact ⟨i - j, j, C2, U2, V2, D2, by rw [show ((i - j : Nat) : Int) = (i : Int) - (j : Int) by omega], rfl, by omega, by omega, by omega, by omega, HI2, HO9, HB9⟩
      case measure => simp [intOf]; omega
end Go.Proofs.Ytcmpioalnpmpmaa

namespace Go.Proofs.Ytcmpioalnpmpmaa
open Go.RowKit Go.Sort
set_option maxRecDepth 100000
theorem at_one (P : List Int) (x : Int) (R : List Int) : (P ++ [x] ++ R).getD P.length 0 = x := by
  rw [List.append_assoc, List.getD_eq_getElem?_getD, List.getElem?_append_right (Nat.le_refl _), Nat.sub_self]; rfl
theorem at_row (P Y S : List Int) (k : Nat) (h : k < Y.length) : (P ++ Y ++ S).getD (P.length + k) 0 = Y.getD k 0 := by
  rw [List.append_assoc, List.getD_eq_getElem?_getD, List.getElem?_append_right (by omega), show P.length + k - P.length = k by omega, List.getElem?_append_left h, ← List.getD_eq_getElem?_getD]
/-- a step of the element that wanders to the right -/
theorem midR_up (S : List Int) (x : Int) (rest : List Int) (j : Nat) (h : j < S.length) : ((midR S x rest j).set j (S.getD j 0)).set (j + 1) x = midR S x rest (j + 1) := by
  have e1 : S.take (j + 1) = S.take j ++ [S.getD j 0] := by
    rw [List.take_succ_eq_append_getElem (by omega), show S.getD j 0 = S[j] by simp [show j < S.length by omega]]
  have e2 : S.drop j = S.getD j 0 :: S.drop (j + 1) := drop_eq' h
  have hlj : (S.take j).length = j := by rw [List.length_take]; omega
  unfold midR
  rw [e1, e2]
  generalize S.getD j 0 = y
  generalize S.take j = P at *
  simp only [List.append_assoc, List.cons_append, List.nil_append]
  rw [List.set_append_right _ _ (by omega), hlj, Nat.sub_self, List.set_cons_zero, List.set_append_right _ _ (by omega), hlj, show j + 1 - j = 1 by omega, List.set_cons_succ, List.set_cons_zero]
theorem midR_next (S : List Int) (x : Int) (rest : List Int) (j : Nat) (h : j < S.length) : (midR S x rest j).getD (j + 1) 0 = S.getD j 0 := by
  have e2 : S.drop j = S.getD j 0 :: S.drop (j + 1) := drop_eq' h
  have hlj : (S.take j).length = j := by rw [List.length_take]; omega
  unfold midR
  rw [e2, List.append_assoc, List.getD_eq_getElem?_getD, List.getElem?_append_right (by omega), hlj, show j + 1 - j = 1 by omega]
  rfl
/-- the same behind a row P -/
theorem pre_at (P L : List Int) (k : Nat) : (P ++ L).getD (P.length + k) 0 = L.getD k 0 := by
  rw [List.getD_eq_getElem?_getD, List.getElem?_append_right (by omega), show P.length + k - P.length = k by omega, ← List.getD_eq_getElem?_getD]
theorem pre_set (P L : List Int) (k : Nat) (y : Int) : (P ++ L).set (P.length + k) y = P ++ L.set k y := by
  rw [List.set_append_right _ _ (by omega), show P.length + k - P.length = k by omega]
/-- a binary search between m and b -/
def BinR (m b : Nat) (lo hi : Nat → Prop) (i j : Value) : Prop := ∃ i' j' : Nat, m ≤ i' ∧ i' ≤ j' ∧ j' ≤ b ∧ i = .int .i64 i' ∧ j = .int .i64 j' ∧ (∀ k, k < i' → lo k) ∧ (∀ k, j' ≤ k → hi k)
theorem BinR.mk' {m b : Nat} {lo hi : Nat → Prop} {i j : Int} (i' j' : Nat) (h1 : m ≤ i') (h2 : i' ≤ j') (h3 : j' ≤ b) (hi' : (i' : Int) = i) (hj' : (j' : Int) = j) (hl : ∀ k, k < i' → lo k) (hh : ∀ k, j' ≤ k → hi k) : BinR m b lo hi (.int .i64 i) (.int .i64 j) :=
  ⟨i', j', h1, h2, h3, by rw [hi'], by rw [hj'], hl, hh⟩
set_option maxHeartbeats 4000000 in
theorem symA_any (F : FuncId) (caps : Array Value) (hE : Enters F) (cf : Int → Int → Int) (K : Int → Int) (A : Int → Prop) (P : List Int) (x : Int) (Y S : List Int) (a m b n base g c : Nat) (w0 w : World) (hP : P.length = a) (hm : m = a + 1) (hY : m + Y.length = b) (hmb : m < b) (hn : n ≤ 1000) (hln : b ≤ n) (hl : (P ++ [x] ++ Y ++ S).length = n) (hbase : base ≤ w0.heap.size) (hb0 : Below base w0 w)
    (h : Own w base (.slice (some ⟨g, 0, none⟩) n c) (P ++ [x] ++ Y ++ S))
    (hAx : A x) (hAY : ∀ y ∈ Y, A y) (hs : Y.Pairwise (LtK K)) (hx : ∀ y ∈ Y, x < y) (hK : ∀ x y, A x → A y → (cf x y < 0 ↔ K x < K y))
    (hf : ∀ x y, A x → A y → ∀ w', Below base w0 w' → Calls Try.prog F (#[.int .i64 x, .int .i64 y] ++ caps) w' fun e w'' => e = .returned (.int .i64 (cf x y)) ∧ Below w'.heap.size w' w'') :
    Calls Try.prog 155 #[.slice (some ⟨g, 0, none⟩) n c, .int .i64 a, .int .i64 m, .int .i64 b, .func (.func F) #[] caps] w fun e w' => e = .returned (.tuple #[]) ∧ ∃ M, M.Perm ([x] ++ Y) ∧ M.Pairwise (LtK K) ∧ Own w' base (.slice (some ⟨g, 0, none⟩) n c) (P ++ M ++ S) ∧ Below base w w' := by
  have hE' : ∀ (args : Array Value) (W : World), (callFunc F args).run Try.prog W = .ok (.enter F args) W := hE
  have HF := Lib.hid hf
  have HK := Lib.hid hK
  have HAY := Lib.hid hAY
  have HS := Lib.hid hs
  have HXY := Lib.hid hx
  have HO0 := Lib.hid h
  have HP := Lib.hid hP
  have HY := Lib.hid hY
  have HLn := Lib.hid hl
  have HB0 := Lib.hid hb0
  have hg := (h.lt g rfl)
  have hbw : base ≤ w.heap.size := by have := hb0.size; omega
  clear hf hK hAY hs hx h hP hY hl hb0
  have y0 : (((m : Int) - (a : Int)) == 1) = true := by simp; omega
  have ham : a < m := by omega
  have hma : m ≤ a + 1 := by omega
  clear hm
  have y1 : IntKind.i64.wrap ((m : Int) - (a : Int)) = (m : Int) - (a : Int) := IntWalk.i64_in _ (by omega)
  go_enter Try.func155, Try.ntmps155
  go_wp2
  obtain ⟨lo, HLOI⟩ : ∃ lo : Nat → Prop, Hid (∀ k, lo k ↔ (m ≤ k → k < b → K (Y.getD (k - m) 0) < K x)) := ⟨_, Lib.hid fun k => Iff.rfl⟩
  obtain ⟨hi, HHII⟩ : ∃ hi : Nat → Prop, Hid (∀ k, hi k ↔ (m ≤ k → k < b → ¬ K (Y.getD (k - m) 0) < K x)) := ⟨_, Lib.hid fun k => Iff.rfl⟩
  obtain ⟨L, HL⟩ : ∃ L, Hid (L = P ++ [x] ++ Y ++ S) := ⟨_, Lib.hid rfl⟩
  rw [← HL.out] at HO0 HLn
  go_loopw [10, 11] (fun i j wr => BinR m b lo hi i j ∧ Hid (Own wr base (.slice (some ⟨g, 0, none⟩) n c) L) ∧ Hid (Below base w wr)) (fun i j _ => (intOf j).toNat - (intOf i).toNat)
  case atStart =>
    have hY := HY.out
    exact ⟨.mk' m b (by omega) (by omega) (by omega) rfl rfl (fun k h1 => (HLOI.out k).2 (by omega)) (fun k h1 => (HHII.out k).2 (by omega)), HO0, Lib.hid ((Below.refl _ _).mono hbw)⟩
  case round =>
    obtain ⟨wo, rfl⟩ : ∃ x, x = wr := ⟨_, rfl⟩
    obtain ⟨⟨i, j, h1, h2, h3, rfl, rfl, HLO', HHI'⟩, HO, HB⟩ := hrel
    have HLO := Lib.hid HLO'
    have HHI := Lib.hid HHI'
    clear HLO' HHI'
    by_cases hlt : i < j
    · have hP := HP.out
      have hY := HY.out
      obtain ⟨hxc, hfz⟩ := HO.out.at1 HLn.out (by omega)
      obtain ⟨hh, hhd⟩ : ∃ hh : Nat, hh = (i + j) / 2 := ⟨_, rfl⟩
      have e0 := at_one P x (Y ++ S)
      rw [hP, ← List.append_assoc, ← HL.out] at e0
      have e1 := at_row (P ++ [x]) Y S (hh - m) (by omega)
      rw [show (P ++ [x]).length + (hh - m) = hh by simp; omega, ← HL.out] at e1
      have z0 := hxc a (by omega)
      have z1 := hxc hh (by omega)
      rw [e0] at z0
      rw [e1] at z1
      have hAy : A (Y.getD (hh - m) 0) := HAY.out _ (getD_memI (by omega))
      have HKy := Lib.hid (HK.out _ _ hAy hAx)
      have HKM := Lib.hid (fun k (h1 : k ≤ hh - m) => sorted_K HS.out (i := k) (j := hh - m) h1 (by omega))
      have HKN := Lib.hid (fun k (h1 : hh - m ≤ k) (h2 : k < Y.length) => sorted_K HS.out (i := hh - m) (j := k) h1 h2)
      have k1 := quiet_below (w := wo) (fun W hW => HF.out _ _ hAy hAx W ((HB0.out.trans HB.out).trans (hW.mono (by have := HB.out.size; omega))))
      clear hxc hfz e0 e1 hAy hP hY
      generalize Y.getD (hh - m) 0 = y at *
      have hk1 := k1 0 #[]
      have u0 : IntKind.i64.wrap ((i : Int) + (j : Int)) = (i : Int) + (j : Int) := IntWalk.i64_in _ (by omega)
      have u1 : ((i : Int) + (j : Int)) / 2 = (hh : Int) := by omega
      have g1 : i ≤ hh := by omega
      have g2 : hh < j := by omega
      have g3 : hh < n := by omega
      clear hhd
      rcases Int.lt_or_le (cf y x) 0 with hr | hr
      · have HLT := Lib.hid (HKy.out.1 hr)
        generalize cf y x = r at *
        go_wp2_with fail
        have c1 := cell_regrown z1
        have c0 := cell_regrown z0
        clear z0 z1
        refine wp_region_below (by kernel_rfl) (by kernel_rfl) ?_
        repeat (go_big_quiet_step (first | (with_reducible exact k1 _ _)))
        refine wpQuiet_nil ?_
        intro wq hbq0
        have HBQ := Lib.hid hbq0
        clear hbq0 c0 c1 k1 hk1
        go_wp2
        go_roundw
        case rel => exact ⟨.mk' (hh + 1) j (by omega) (by omega) (by omega) (by omega) rfl (fun k q1 => (HLOI.out k).2 (fun q2 q3 => by have := HKM.out (k - m) (by omega); have := HLT.out; omega)) HHI.out, Lib.hid (HO.out.below HBQ.out), Lib.hid (HB.out.trans (HBQ.out.mono (Nat.le_trans hbw HB.out.size)))⟩
        case measure => simp [intOf]; omega
      · have HLT : Hid (¬ K y < K x) := Lib.hid (fun h => absurd (HKy.out.2 h) (by omega))
        generalize cf y x = r at *
        go_wp2_with fail
        have c1 := cell_regrown z1
        have c0 := cell_regrown z0
        clear z0 z1
        refine wp_region_below (by kernel_rfl) (by kernel_rfl) ?_
        repeat (go_big_quiet_step (first | (with_reducible exact k1 _ _)))
        refine wpQuiet_nil ?_
        intro wq hbq0
        have HBQ := Lib.hid hbq0
        clear hbq0 c0 c1 k1 hk1
        go_wp2
        go_roundw
        case rel => exact ⟨.mk' i hh (by omega) (by omega) (by omega) rfl rfl HLO.out (fun k q1 => (HHII.out k).2 (fun q2 q3 => by have := HKN.out (k - m) (by omega) (by have := HY.out; omega); have hx := HLT.out; omega)), Lib.hid (HO.out.below HBQ.out), Lib.hid (HB.out.trans (HBQ.out.mono (Nat.le_trans hbw HB.out.size)))⟩
        case measure => simp [intOf]; omega
    · obtain rfl : i = j := by omega
      have HR := Lib.hid (ins_left (i := i - m) HS.out HXY.out (fun k q1 q2 => by have := (HLOI.out (m + k)).1 (HLO.out (m + k) (by omega)) (by omega) (by have := HY.out; omega); rwa [show m + k - m = k by omega] at this) (fun k q1 q2 => by have := (HHII.out (m + k)).1 (HHI.out (m + k) (by omega)) (by omega) (by have := HY.out; omega); rwa [show m + k - m = k by omega] at this))
      have HLm : Hid (∀ q, q ≤ Y.length → (P ++ midR Y x S q).length = n) := Lib.hid (fun q hq => by
        have h2 := HLn.out
        rw [HL.out] at h2
        rw [List.length_append, midR_len Y x S q hq]
        simp only [List.length_append, List.length_cons, List.length_nil] at h2
        omega)
      have v0 : IntKind.i64.wrap ((i : Int) - 1) = (i : Int) - 1 := IntWalk.i64_in _ (by omega)
      go_wp2
      go_loopw [13] (fun k wr => ∃ k' : Nat, a ≤ k' ∧ k' + 1 ≤ i ∧ k = .int .i64 k' ∧ Hid (Own wr base (.slice (some ⟨g, 0, none⟩) n c) (P ++ midR Y x S (k' - a))) ∧ Hid (Below base w wr)) (fun k _ => i - (intOf k).toNat)
      case atStart => exact ⟨a, by omega, by omega, rfl, Lib.hid (by rw [Nat.sub_self]; have := HO.out; rw [HL.out] at this; simpa [midR, List.append_assoc] using this), HB⟩
      case round =>
        obtain ⟨wi, rfl⟩ : ∃ x, x = wr := ⟨_, rfl⟩
        obtain ⟨k, q1, q2, rfl, HO2, HB2⟩ := hrel
        clear HO HB
        by_cases hlt2 : k + 1 < i
        · have hP := HP.out
          have hY := HY.out
          have hlM := HLm.out (k - a) (by omega)
          obtain ⟨hxc, hfz⟩ := HO2.out.at1 hlM (by omega)
          have z0 := hxc k (by omega)
          have z1 := hxc (k + 1) (by omega)
          have E0 : (P ++ midR Y x S (k - a)).getD k 0 = x := by
            have := pre_at P (midR Y x S (k - a)) (k - a)
            rw [hP, show a + (k - a) = k by omega, midR_at Y x S (k - a) (by omega)] at this
            exact this
          have E1 : (P ++ midR Y x S (k - a)).getD (k + 1) 0 = Y.getD (k - a) 0 := by
            have := pre_at P (midR Y x S (k - a)) (k - a + 1)
            rw [hP, show a + (k - a + 1) = k + 1 by omega, midR_next Y x S (k - a) (by omega)] at this
            exact this
          have U : ((P ++ midR Y x S (k - a)).set k (Y.getD (k - a) 0)).set (k + 1) x = P ++ midR Y x S (k + 1 - a) := by
            have h1 := pre_set P (midR Y x S (k - a)) (k - a) (Y.getD (k - a) 0)
            have h2 := pre_set P ((midR Y x S (k - a)).set (k - a) (Y.getD (k - a) 0)) (k - a + 1) x
            rw [hP, show a + (k - a) = k by omega] at h1
            rw [hP, show a + (k - a + 1) = k + 1 by omega, midR_up Y x S (k - a) (by omega)] at h2
            rw [h1, h2, show k - a + 1 = k + 1 - a by omega]
          rw [E0] at z0
          rw [E1] at z1
          have f0 := hfz k
          have f1 := hfz (k + 1)
          have O3 := (HO2.out.set_ hlM k (Y.getD (k - a) 0)).1
          have hlM2 : ((P ++ midR Y x S (k - a)).set k (Y.getD (k - a) 0)).length = n := by rw [List.length_set]; exact hlM
          have O4 := Lib.hid (O3.set_ hlM2 (k + 1) x).1
          rw [U] at O4
          generalize Y.getD (k - a) 0 = y at *
          have HB4 := Lib.hid ((HB2.out.setCell (p := ⟨g, k, none⟩) hg.1 (.int .i64 y)).setCell (p := ⟨g, k + 1, none⟩) hg.1 (.int .i64 x))
          clear O3 hxc hfz E0 E1 U hlM hlM2 hP hY
          have i1 : (k : Int) + 1 < (n : Int) := by omega
          have i2 : (k : Int) < (n : Int) := by omega
          have i3 : k + 1 < n := by omega
          have i4 : k < n := by omega
          have i5 : (0 : Int) ≤ (k : Int) + 1 := by omega
          have t0 : IntKind.i64.wrap ((k : Int) + 1) = (k : Int) + 1 := IntWalk.i64_in _ (by omega)
          have t1 : ((k : Int) + 1).toNat = k + 1 := by omega
          have t2 : decide ((k : Int) < (i : Int) - 1) = true := by simp; omega
          go_wp2_with fail
          go_region_law (fail)
          all_goals
            have HO5 : Hid (Own ((wi.setCell ⟨g, k, none⟩ (.int .i64 y)).setCell ⟨g, k + 1, none⟩ (.int .i64 x)).drew base (.slice (some ⟨g, 0, none⟩) n c) (P ++ midR Y x S (k + 1 - a))) := O4.out
            have HB5 : Hid (Below base w ((wi.setCell ⟨g, k, none⟩ (.int .i64 y)).setCell ⟨g, k + 1, none⟩ (.int .i64 x)).drew) := ⟨HB4.out.os, HB4.out.tape, HB4.out.output, HB4.out.size, HB4.out.block⟩
            clear z0 z1 f0 f1 t0 t1 t2 i1 i2 i3 i4 i5
            generalize ((wi.setCell ⟨g, k, none⟩ (.int .i64 y)).setCell ⟨g, k + 1, none⟩ (.int .i64 x)).drew = w9 at HO5 HB5 ⊢
            go_wp2
            go_roundw
            case rel => exact ⟨k + 1, by omega, by omega, by go_num, HO5, HB5⟩
            case measure => simp [intOf]; omega
        · have t2 : decide ((k : Int) < (i : Int) - 1) = false := by simp; omega
          have HE : Hid (k - a = i - m) := Lib.hid (by omega)
          go_wp2
          (try simp only [Exit.inBlock, Exit.then])
          refine bodyPost_ret (results_none rfl _ _ _) rfl ?_
          refine ⟨rfl, _, HR.out.2, HR.out.1, ?_, HB2.out⟩
          have := HO2.out
          rw [HE.out] at this
          simpa [midR, List.append_assoc] using this
end Go.Proofs.Ytcmpioalnpmpmaa

