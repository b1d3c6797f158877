/- slices.SortStableFunc beyond 20 elements: rotate. -/
import Derived.Test.YtdmneccfbfdloaaSortM
namespace Go.Proofs.Ytdmneccfbfdloaa
open Go.RowKit Go.Sort
set_option maxRecDepth 100000
/-- what a round of rotate keeps -/
def RotI (P X Y S : List Int) (a m b : Nat) (C U V D : List Int) (i j : Nat) : Prop :=
  U.length = i ∧ V.length = j ∧ a + C.length + i = m ∧ m + j + D.length = b ∧ P ++ C ++ V ++ U ++ D ++ S = P ++ Y ++ X ++ S
theorem rot_lt (f : Value) (P X Y S C U V D : List Int) (a m b i j n base g c : Nat) (w : World) (hP : P.length = a) (hI : RotI P X Y S a m b C U V D i j) (hlt : i < j) (hn : n ≤ 1000) (hln : b ≤ n) (hl : (P ++ C ++ U ++ V ++ D ++ S).length = n) (hbase : base ≤ w.heap.size)
    (h : Own w base (.slice (some ⟨g, 0, none⟩) n c) (P ++ C ++ U ++ V ++ D ++ S)) :
    Calls Try.prog 83 #[.slice (some ⟨g, 0, none⟩) n c, .int .i64 ((m : Int) - i), .int .i64 ((m : Int) + j - i), .int .i64 i, f] w fun e w' => e = .returned (.tuple #[]) ∧ ∃ C2 U2 V2 D2, RotI P X Y S a m b C2 U2 V2 D2 i (j - i) ∧ Own w' base (.slice (some ⟨g, 0, none⟩) n c) (P ++ C2 ++ U2 ++ V2 ++ D2 ++ S) ∧ Below base w w' := by
  obtain ⟨hu, hv, hc, hd, ht⟩ := hI
  obtain ⟨V1, V2, rfl, hv2⟩ : ∃ V1 V2, V = V1 ++ V2 ∧ V2.length = i := ⟨V.take (V.length - i), V.drop (V.length - i), (List.take_append_drop _ _).symm, by rw [List.length_drop]; omega⟩
  rw [List.length_append] at hv
  have SW := swapRange_any f (P ++ C) U V1 V2 (D ++ S) (a + C.length) (m + V1.length) i n base g c w (by rw [List.length_append, hP]) hu (by omega) hv2 hn (by omega) (by rw [← hl]; simp [List.append_assoc]) hbase (by simpa [List.append_assoc] using h)
  rw [show ((a + C.length : Nat) : Int) = (m : Int) - i by omega, show ((m + V1.length : Nat) : Int) = (m : Int) + j - i by omega] at SW
  refine SW.mono ?_
  rintro e w' ⟨rfl, ho, hb⟩
  exact ⟨rfl, C, V2, V1, U ++ D, ⟨hv2, by omega, hc, by simp; omega, by rw [← ht]; simp [List.append_assoc]⟩, by simpa [List.append_assoc] using ho, hb⟩
theorem rot_gt (f : Value) (P X Y S C U V D : List Int) (a m b i j n base g c : Nat) (w : World) (hP : P.length = a) (hI : RotI P X Y S a m b C U V D i j) (hlt : j < i) (hn : n ≤ 1000) (hln : b ≤ n) (hl : (P ++ C ++ U ++ V ++ D ++ S).length = n) (hbase : base ≤ w.heap.size)
    (h : Own w base (.slice (some ⟨g, 0, none⟩) n c) (P ++ C ++ U ++ V ++ D ++ S)) :
    Calls Try.prog 83 #[.slice (some ⟨g, 0, none⟩) n c, .int .i64 ((m : Int) - i), .int .i64 m, .int .i64 j, f] w fun e w' => e = .returned (.tuple #[]) ∧ ∃ C2 U2 V2 D2, RotI P X Y S a m b C2 U2 V2 D2 (i - j) j ∧ Own w' base (.slice (some ⟨g, 0, none⟩) n c) (P ++ C2 ++ U2 ++ V2 ++ D2 ++ S) ∧ Below base w w' := by
  obtain ⟨hu, hv, hc, hd, ht⟩ := hI
  obtain ⟨U1, U2, rfl, hu1⟩ : ∃ U1 U2, U = U1 ++ U2 ∧ U1.length = j := ⟨U.take j, U.drop j, (List.take_append_drop _ _).symm, by rw [List.length_take]; omega⟩
  rw [List.length_append] at hu
  have SW := swapRange_any f (P ++ C) U1 U2 V (D ++ S) (a + C.length) m j n base g c w (by rw [List.length_append, hP]) hu1 (by omega) hv hn (by omega) (by rw [← hl]; simp [List.append_assoc]) hbase (by simpa [List.append_assoc] using h)
  rw [show ((a + C.length : Nat) : Int) = (m : Int) - i by omega] at SW
  refine SW.mono ?_
  rintro e w' ⟨rfl, ho, hb⟩
  exact ⟨rfl, C ++ V, U2, U1, D, ⟨by omega, hu1, by simp; omega, by omega, by rw [← ht]; simp [List.append_assoc]⟩, by simpa [List.append_assoc] using ho, hb⟩
theorem rot_eq (f : Value) (P X Y S C U V D : List Int) (a m b i n base g c : Nat) (w : World) (hP : P.length = a) (hI : RotI P X Y S a m b C U V D i i) (hn : n ≤ 1000) (hln : b ≤ n) (hl : (P ++ C ++ U ++ V ++ D ++ S).length = n) (hbase : base ≤ w.heap.size)
    (h : Own w base (.slice (some ⟨g, 0, none⟩) n c) (P ++ C ++ U ++ V ++ D ++ S)) :
    Calls Try.prog 83 #[.slice (some ⟨g, 0, none⟩) n c, .int .i64 ((m : Int) - i), .int .i64 m, .int .i64 i, f] w fun e w' => e = .returned (.tuple #[]) ∧ Own w' base (.slice (some ⟨g, 0, none⟩) n c) (P ++ Y ++ X ++ S) ∧ Below base w w' := by
  obtain ⟨hu, hv, hc, hd, ht⟩ := hI
  have SW := swapRange_any f (P ++ C) U [] V (D ++ S) (a + C.length) m i n base g c w (by rw [List.length_append, hP]) hu (by simp; omega) hv hn (by omega) (by rw [← hl]; simp [List.append_assoc]) hbase (by simpa [List.append_assoc] using h)
  rw [show ((a + C.length : Nat) : Int) = (m : Int) - i by omega] at SW
  refine SW.mono ?_
  rintro e w' ⟨rfl, ho, hb⟩
  exact ⟨rfl, by rw [← ht]; simpa [List.append_assoc] using ho, hb⟩
set_option maxHeartbeats 4000000 in
theorem rotate_any (f : Value) (P X Y S : List Int) (a m b n base g c : Nat) (w : World) (hP : P.length = a) (hX : a + X.length = m) (hY : m + Y.length = b) (h1 : a < m) (h2 : m < b) (hn : n ≤ 1000) (hln : b ≤ n) (hl : (P ++ X ++ Y ++ S).length = n) (hbase : base ≤ w.heap.size)
    (h : Own w base (.slice (some ⟨g, 0, none⟩) n c) (P ++ X ++ Y ++ S)) :
    Calls Try.prog 79 #[.slice (some ⟨g, 0, none⟩) n c, .int .i64 a, .int .i64 m, .int .i64 b, f] w fun e w' => e = .returned (.tuple #[]) ∧ Own w' base (.slice (some ⟨g, 0, none⟩) n c) (P ++ Y ++ X ++ S) ∧ Below base w w' := by
  have HO0 := Lib.hid h
  have HP := Lib.hid hP
  have HX := Lib.hid hX
  have HY := Lib.hid hY
  have HLn := Lib.hid hl
  clear h hl hP hX hY
  have w0 : IntKind.i64.wrap ((m : Int) - (a : Int)) = (m : Int) - (a : Int) := IntWalk.i64_in _ (by omega)
  have w1 : IntKind.i64.wrap ((b : Int) - (m : Int)) = (b : Int) - (m : Int) := IntWalk.i64_in _ (by omega)
  go_enter Try.func79, Try.ntmps79
  go_wp2
  go_loopw [10, 11] (fun i j wr => ∃ i' j' : Nat, ∃ C U V D : List Int, i = .int .i64 i' ∧ j = .int .i64 j' ∧ 1 ≤ i' ∧ 1 ≤ j' ∧ a + i' ≤ m ∧ m + j' ≤ b ∧ Hid (RotI P X Y S a m b C U V D i' j') ∧ Hid (Own wr base (.slice (some ⟨g, 0, none⟩) n c) (P ++ C ++ U ++ V ++ D ++ S)) ∧ Hid (Below base w wr)) (fun i j _ => (intOf i).toNat + (intOf j).toNat)
  case atStart =>
    have hX := HX.out
    have hY := HY.out
    exact ⟨m - a, b - m, [], X, Y, [], by rw [show ((m - a : Nat) : Int) = (m : Int) - (a : Int) by omega], by rw [show ((b - m : Nat) : Int) = (b : Int) - (m : Int) by omega], by omega, by omega, by omega, by omega, Lib.hid ⟨by omega, by omega, by simp; omega, by simp; omega, by simp⟩, Lib.hid (by simpa using HO0.out), Lib.hid ((Below.refl _ _).mono hbase)⟩
  case round =>
    obtain ⟨wo, rfl⟩ : ∃ x, x = wr := ⟨_, rfl⟩
    obtain ⟨i, j, C, U, V, D, rfl, rfl, u1, v1, him, hjb, HI, HO, HB⟩ := hrel
    clear w0 w1 HO0
    have HLn2 : Hid ((P ++ C ++ U ++ V ++ D ++ S).length = n) := by
      refine Lib.hid ?_
      have h1 := congrArg List.length HI.out.2.2.2.2
      have h2 := HLn.out
      simp only [List.length_append] at h1 h2 ⊢
      omega
    rcases Nat.lt_trichotomy i j with hlt | heq | hgt
    · have HSW := Lib.hid (rot_lt f P X Y S C U V D a m b i j n base g c wo HP.out HI.out hlt hn hln HLn2.out (by have := HB.out.size; omega) HO.out)
      clear HI HO HLn2
      have d0 : decide ((i : Int) = (j : Int)) = false := by simp; omega
      have d1 : decide ((j : Int) < (i : Int)) = false := by simp; omega
      have t0 : IntKind.i64.wrap ((m : Int) - (i : Int)) = (m : Int) - (i : Int) := IntWalk.i64_in _ (by omega)
      have t1 : IntKind.i64.wrap ((m : Int) + (j : Int)) = (m : Int) + (j : Int) := IntWalk.i64_in _ (by omega)
      have t2 : IntKind.i64.wrap ((m : Int) + (j : Int) - (i : Int)) = (m : Int) + (j : Int) - (i : Int) := IntWalk.i64_in _ (by omega)
      have t3 : IntKind.i64.wrap ((j : Int) - (i : Int)) = (j : Int) - (i : Int) := IntWalk.i64_in _ (by omega)
      go_wp2_with fail
      refine HSW.out.mono ?_
      rintro e w9 ⟨rfl, C2, U2, V2, D2, hi2, ho9, hb9⟩
      have HI2 := Lib.hid hi2
      have HO9 := Lib.hid ho9
      have HB9 := Lib.hid ((HB.out).trans hb9)
      clear ho9 hb9 hi2 HSW HB
      go_wp2_with fail
      go_roundw
      case rel => exact ⟨i, j - i, C2, U2, V2, D2, rfl, by rw [show ((j - i : Nat) : Int) = (j : Int) - (i : Int) by omega], by omega, by omega, by omega, by omega, HI2, HO9, HB9⟩
      case measure => simp [intOf]; omega
    · subst heq
      have HSW := Lib.hid (rot_eq f P X Y S C U V D a m b i n base g c wo HP.out HI.out hn hln HLn2.out (by have := HB.out.size; omega) HO.out)
      clear HI HO HLn2
      have t0 : IntKind.i64.wrap ((m : Int) - (i : Int)) = (m : Int) - (i : Int) := IntWalk.i64_in _ (by omega)
      go_wp2_with fail
      refine HSW.out.mono ?_
      rintro e w9 ⟨rfl, ho9, hb9⟩
      have HO9 := Lib.hid ho9
      have HB9 := Lib.hid ((HB.out).trans hb9)
      clear ho9 hb9 HSW HB
      go_wp2_with fail
      go_end0
      exact ⟨rfl, HO9.out, HB9.out⟩
    · have HSW := Lib.hid (rot_gt f P X Y S C U V D a m b i j n base g c wo HP.out HI.out hgt hn hln HLn2.out (by have := HB.out.size; omega) HO.out)
      clear HI HO HLn2
      have d0 : decide ((i : Int) = (j : Int)) = false := by simp; omega
      have d1 : decide ((j : Int) < (i : Int)) = true := by simp; omega
      have t0 : IntKind.i64.wrap ((m : Int) - (i : Int)) = (m : Int) - (i : Int) := IntWalk.i64_in _ (by omega)
      have t3 : IntKind.i64.wrap ((i : Int) - (j : Int)) = (i : Int) - (j : Int) := IntWalk.i64_in _ (by omega)
      go_wp2_with fail
      refine HSW.out.mono ?_
      rintro e w9 ⟨rfl, C2, U2, V2, D2, hi2, ho9, hb9⟩
      have HI2 := Lib.hid hi2
      have HO9 := Lib.hid ho9
      have HB9 := Lib.hid ((HB.out).trans hb9)
      clear ho9 hb9 hi2 HSW HB
      go_wp2_with fail
      go_roundw
      case rel => exact ⟨i - j, j, C2, U2, V2, D2, by rw [show ((i - j : Nat) : Int) = (i : Int) - (j : Int) by omega], rfl, by omega, by omega, by omega, by omega, HI2, HO9, HB9⟩
      case measure => simp [intOf]; omega
end Go.Proofs.Ytdmneccfbfdloaa
