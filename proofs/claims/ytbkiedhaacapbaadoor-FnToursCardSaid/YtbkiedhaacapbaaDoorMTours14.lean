/- Texts put together: Of. -/
import Derived.Test.YtbkiedhaacapbaaDoorMTours13
import Derived.Deep.RegionLaw
namespace Go.Proofs.YtbkiedhaacapbaaDoor
open Go.RowKit Go.Sort
set_option maxRecDepth 100000
theorem add_shlw (X b : Nat) (hb : b ≤ 61) (h : X + 2 ^ b ≤ 1000) : IntKind.i64.wrap ((X : Int) + IntKind.i64.wrap (2 ^ b)) = ((X + 2 ^ b : Nat) : Int) := by
  rw [IntWalk.i64_left, IntWalk.i64_left, shl_nat b hb, ← Int.natCast_add]
  exact wrap64_nat _ (by omega)
set_option maxHeartbeats 8000000 in
theorem l02Of_any (n : Nat) (h1 : 1 ≤ n) (h8 : n ≤ 8) (bs : Int) (w : World) :
    Calls Tryd.prog 84 #[.int .i64 n, .int .i64 bs] w fun e w' => ∃ sl xs, e = .returned (.agg #[.int .i64 n, sl]) ∧ tourP n xs ∧ Own w' w.heap.size sl xs ∧ Below w.heap.size w w' := by
  obtain ⟨i0, hi, hz0, hz1, hz2⟩ := info_parts i64_info
  have HT0 := Lib.hid (BoxF.new w 0 (.slice none 0 0) 25)
  have HB0 := Lib.hid (below_alloc1 w (.cells #[.int .i64 0, .slice none 0 0] 25))
  go_enter Tryd.func84, Tryd.ntmps84
  go_wp2_with (at_make; refine wpList_make_full _ rfl _ _ 23 rfl (w.heap.size + 1) 3 i0 (.int .i64 0) 1 Tryd.underlying23 hi hz0 hz1 _ _ _ _ n rfl rfl rfl rfl (by rw [hz2]; omega) (by unfold maxLen; omega) (by simp) ?_; intro w1 hown hg1; have HB1 := Lib.hid (Below.grown HB0.out hg1 HB0.out.size (by simp)); have HT1 := Lib.hid (HT0.out.kept hg1 (by simp)); have HOWN := Lib.hid hown; have HS1 := Lib.hid (World.ownsRow.lt hown); clear hown hg1)
  have HO1 : Hid (Own w1 (w.heap.size + 1) (.slice (some ⟨w.heap.size + 1, 0, none⟩) n n) (List.replicate n 0)) := by
    have ho := HOWN.out
    rw [ints_made'] at ho
    unfold Hid Own
    rw [List.length_replicate]
    have e : (w.alloc (.cells #[.int .i64 0, .slice none 0 0] 25)).heap.size = w.heap.size + 1 := by simp
    rw [e] at ho
    exact ho
  have hgl1 : w.heap.size + 1 < w1.heap.size := (HO1.out.lt (w.heap.size + 1) rfl).2
  have HU1 := Lib.hid (BoxF.new w1 n (.slice (some ⟨w.heap.size + 1, 0, none⟩) n n) 25)
  have hb2 := below_alloc1 w1 (.cells #[.int .i64 n, .slice (some ⟨w.heap.size + 1, 0, none⟩) n n] 25)
  have HO2 := Lib.hid ((HO1.out.below hb2).mono (show w.heap.size ≤ w.heap.size + 1 by omega))
  have HT2 := Lib.hid (HT1.out.below hb2)
  have HB2 := Lib.hid (Below.then HB1.out hb2)
  clear HOWN HS1 HO1 HT1 HB1 hb2 HT0 HB0
  generalize w1.alloc (.cells #[.int .i64 n, .slice (some ⟨w.heap.size + 1, 0, none⟩) n n] 25) = w2 at *
  obtain ⟨gu, hgu⟩ : ∃ gu, gu = w1.heap.size := ⟨_, rfl⟩
  obtain ⟨gl, hgl⟩ : ∃ gl, gl = w.heap.size + 1 := ⟨_, rfl⟩
  rw [← hgu] at HU1 hgl1 ⊢
  rw [← hgl] at HU1 HO2 hgl1 ⊢
  have hwl : w.heap.size < gl := by omega
  clear hgu hgl
  go_loopw [1, 6] (fun x i wr => ∃ (a : Nat) (y : Int) (N : List Int), a ≤ n ∧ i = .int .i64 a ∧ x = .int .i64 y ∧ Hid (HalfT n a (a + 1) N) ∧ Hid (Own wr w.heap.size (.slice (some ⟨gl, 0, none⟩) n n) N) ∧ Hid (BoxF wr gu n (.slice (some ⟨gl, 0, none⟩) n n)) ∧ Hid (BoxF wr w.heap.size 0 (.slice none 0 0)) ∧ Hid (Below w.heap.size w wr)) (fun _ i _ => n - (intOf i).toNat)
  case atStart => exact ⟨0, bs, _, by omega, rfl, rfl, Lib.hid (HalfT.start n), HO2, HU1, HT2, HB2⟩
  case round =>
    obtain ⟨wo, rfl⟩ : ∃ x, x = wr := ⟨_, rfl⟩
    obtain ⟨a, y, N, ha, rfl, rfl, HH, HO, HU, HT, HB⟩ := hrel
    clear HO2 HU1 HT2 HB2
    by_cases hlt : a < n
    · go_wp2
      go_loopw [1, 7] (fun x j wr => ∃ (b : Nat) (z : Int) (M : List Int), a < b ∧ b ≤ n ∧ j = .int .i64 b ∧ x = .int .i64 z ∧ Hid (HalfT n a b M) ∧ Hid (Own wr w.heap.size (.slice (some ⟨gl, 0, none⟩) n n) M) ∧ Hid (BoxF wr gu n (.slice (some ⟨gl, 0, none⟩) n n)) ∧ Hid (BoxF wr w.heap.size 0 (.slice none 0 0)) ∧ Hid (Below w.heap.size w wr)) (fun _ j _ => n - (intOf j).toNat)
      case atStart => exact ⟨a + 1, y, N, by omega, by omega, by go_num, rfl, HH, HO, HU, HT, HB⟩
      case round =>
        obtain ⟨wk, rfl⟩ : ∃ x, x = wr := ⟨_, rfl⟩
        clear HH HO HU HT HB
        obtain ⟨b, z, M, hab, hb, rfl, rfl, HH, HO, HU, HT, HB⟩ := hrel
        by_cases hlt2 : b < n
        · have hand := i64_and_one z
          rcases Int.emod_two_eq z with hbit | hbit
          · rw [hbit] at hand
            obtain ⟨X, eX, hX⟩ := HH.out.lt (x := b) (by omega)
            have hb2 : a ≤ 7 := by omega
            have hp7 : 2 ^ a ≤ 128 := Nat.pow_le_pow_right (n := 2) (j := 7) (by decide) hb2
            have hp8 : 2 ^ n ≤ 256 := Nat.pow_le_pow_right (n := 2) (j := 8) (by decide) h8
            have HG := Lib.hid (HH.out.game hab hlt2 (.inr ⟨rfl, rfl⟩) eX)
            have HV := Lib.hid (add_shlw X a (by omega) (by omega))
            obtain ⟨hxc, hfz⟩ := HO.out.at1 HH.out.1 (by omega)
            have z1 := hxc b (by omega)
            rw [eX] at z1
            have f1 := hfz b
            have O2 := (HO.out.set_ HH.out.1 b ((X + 2 ^ a : Nat) : Int)).1
            have hgr : wk.grownBy (wk.setCell ⟨gl, b, none⟩ (.int .i64 ((X + 2 ^ a : Nat) : Int))).drew (some gl) := (let q := setCell_grown wk ⟨gl, b, none⟩ (.int .i64 ((X + 2 ^ a : Nat) : Int)); ⟨q.os, q.tape, q.output, q.size, q.block⟩)
            have HO2 := Lib.hid (show Own (wk.setCell ⟨gl, b, none⟩ (.int .i64 ((X + 2 ^ a : Nat) : Int))).drew w.heap.size _ _ from O2)
            have HU2 := Lib.hid (show BoxF (wk.setCell ⟨gl, b, none⟩ (.int .i64 ((X + 2 ^ a : Nat) : Int))).drew gu n _ from HU.out.kept hgr (by simp; omega))
            have HT2 := Lib.hid (show BoxF (wk.setCell ⟨gl, b, none⟩ (.int .i64 ((X + 2 ^ a : Nat) : Int))).drew w.heap.size 0 _ from HT.out.kept hgr (by simp; omega))
            have HB2 := Lib.hid (show Below w.heap.size w (wk.setCell ⟨gl, b, none⟩ (.int .i64 ((X + 2 ^ a : Nat) : Int))).drew from (HB.out.setCell (p := ⟨gl, b, none⟩) (by show w.heap.size ≤ gl; omega) _).drew)
            have y1 := HU.out.1.2
            have un : b < n := by omega
            have uni : (b : Int) < (n : Int) := by omega
            clear hxc hfz O2 hgr hp7 hp8 hX eX HH HO HU HT HB
            go_wp2_with fail
            have hv1 := HV.out
            go_region_law (fail)
            all_goals
              rw [show ((X : Int) + 2 ^ a) = ((X + 2 ^ a : Nat) : Int) by simp]
              clear z1 f1 y1 hv1
              generalize (wk.setCell ⟨gl, b, none⟩ (.int .i64 ((X + 2 ^ a : Nat) : Int))).drew = w9 at HO2 HU2 HT2 HB2 ⊢
              go_wp2
              go_roundw
              case rel => exact ⟨b + 1, _, _, by omega, by omega, by go_num, rfl, HG, HO2, HU2, HT2, HB2⟩
              case measure => simp [intOf]; omega
          · rw [hbit] at hand
            obtain ⟨X, eX, hX⟩ := HH.out.lt (x := a) (by omega)
            have hb2 : b ≤ 7 := by omega
            have hp7 : 2 ^ b ≤ 128 := Nat.pow_le_pow_right (n := 2) (j := 7) (by decide) hb2
            have hp8 : 2 ^ n ≤ 256 := Nat.pow_le_pow_right (n := 2) (j := 8) (by decide) h8
            have HG := Lib.hid (HH.out.game hab hlt2 (.inl ⟨rfl, rfl⟩) eX)
            have HV := Lib.hid (add_shlw X b (by omega) (by omega))
            obtain ⟨hxc, hfz⟩ := HO.out.at1 HH.out.1 (by omega)
            have z1 := hxc a (by omega)
            rw [eX] at z1
            have f1 := hfz a
            have O2 := (HO.out.set_ HH.out.1 a ((X + 2 ^ b : Nat) : Int)).1
            have hgr : wk.grownBy (wk.setCell ⟨gl, a, none⟩ (.int .i64 ((X + 2 ^ b : Nat) : Int))).drew (some gl) := (let q := setCell_grown wk ⟨gl, a, none⟩ (.int .i64 ((X + 2 ^ b : Nat) : Int)); ⟨q.os, q.tape, q.output, q.size, q.block⟩)
            have HO2 := Lib.hid (show Own (wk.setCell ⟨gl, a, none⟩ (.int .i64 ((X + 2 ^ b : Nat) : Int))).drew w.heap.size _ _ from O2)
            have HU2 := Lib.hid (show BoxF (wk.setCell ⟨gl, a, none⟩ (.int .i64 ((X + 2 ^ b : Nat) : Int))).drew gu n _ from HU.out.kept hgr (by simp; omega))
            have HT2 := Lib.hid (show BoxF (wk.setCell ⟨gl, a, none⟩ (.int .i64 ((X + 2 ^ b : Nat) : Int))).drew w.heap.size 0 _ from HT.out.kept hgr (by simp; omega))
            have HB2 := Lib.hid (show Below w.heap.size w (wk.setCell ⟨gl, a, none⟩ (.int .i64 ((X + 2 ^ b : Nat) : Int))).drew from (HB.out.setCell (p := ⟨gl, a, none⟩) (by show w.heap.size ≤ gl; omega) _).drew)
            have y1 := HU.out.1.2
            have un : a < n := by omega
            have uni : (a : Int) < (n : Int) := by omega
            clear hxc hfz O2 hgr hp7 hp8 hX eX HH HO HU HT HB
            go_wp2_with fail
            have hv1 := HV.out
            go_region_law (fail)
            all_goals
              rw [show ((X : Int) + 2 ^ b) = ((X + 2 ^ b : Nat) : Int) by simp]
              clear z1 f1 y1 hv1
              generalize (wk.setCell ⟨gl, a, none⟩ (.int .i64 ((X + 2 ^ b : Nat) : Int))).drew = w9 at HO2 HU2 HT2 HB2 ⊢
              go_wp2
              go_roundw
              case rel => exact ⟨b + 1, _, _, by omega, by omega, by go_num, rfl, HG, HO2, HU2, HT2, HB2⟩
              case measure => simp [intOf]; omega
        · obtain rfl : b = n := by omega
          have HR := Lib.hid HH.out.row
          go_wp2
          go_roundw
          case rel => exact ⟨a + 1, _, _, by omega, by go_num, rfl, HR, HO, HU, HT, HB⟩
          case measure => simp [intOf]; omega
    · obtain rfl : a = n := by omega
      have HTR := Lib.hid (HH.out.tour h1 h8)
      have u0 := HU.out.1.1
      have u1 := HU.out.1.2
      have t0 := HT.out.1.1
      have t1 := HT.out.1.2
      have f0 := HT.out.2 0
      have f1 := HT.out.2 1
      have HO' := Lib.hid ((HO.out.kept (setCell_grown _ ⟨w.heap.size, 0, none⟩ (.int .i64 a)) (by right; simp [Value.ownBlock]; omega)).kept (setCell_grown _ ⟨w.heap.size, 1, none⟩ (.slice (some ⟨gl, 0, none⟩) a a)) (by right; simp [Value.ownBlock]; omega))
      have HB' := Lib.hid ((HB.out.setCell (p := ⟨w.heap.size, 0, none⟩) (Nat.le_refl _) (.int .i64 a)).setCell (p := ⟨w.heap.size, 1, none⟩) (Nat.le_refl _) (.slice (some ⟨gl, 0, none⟩) a a))
      have R0 : Hid (((wo.setCell ⟨w.heap.size, 0, none⟩ (.int .i64 a)).setCell ⟨w.heap.size, 1, none⟩ (.slice (some ⟨gl, 0, none⟩) a a)).cell? ⟨w.heap.size, 0, none⟩ = some (.int .i64 a)) := (World.cell?_setCell_other _ _ _ _ (by simp)).trans (World.cell?_setCell_same _ _ _ t0)
      have R1 : Hid (((wo.setCell ⟨w.heap.size, 0, none⟩ (.int .i64 a)).setCell ⟨w.heap.size, 1, none⟩ (.slice (some ⟨gl, 0, none⟩) a a)).cell? ⟨w.heap.size, 1, none⟩ = some (.slice (some ⟨gl, 0, none⟩) a a)) := World.cell?_setCell_same _ _ _ ((World.cell?_setCell_other _ _ _ _ (by simp)).trans t1)
      go_wp2
      have r0 := R0.out
      have r1 := R1.out
      refine bodyPost_ret (v := .agg #[.int .i64 a, .slice (some ⟨gl, 0, none⟩) a a]) (by simp only [results, Tryd.results84]; simp [go_sem, r0, r1]) rfl ⟨_, N, rfl, HTR.out, HO'.out, HB'.out⟩
end Go.Proofs.YtbkiedhaacapbaaDoor

