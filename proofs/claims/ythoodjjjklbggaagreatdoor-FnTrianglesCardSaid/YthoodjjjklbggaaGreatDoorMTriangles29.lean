/- Texts put together: LFnTriangles. -/
import Derived.Test.YthoodjjjklbggaaGreatDoorMTriangles25
import Derived.Test.YthoodjjjklbggaaGreatDoorMTriangles26
import Derived.Test.YthoodjjjklbggaaGreatDoorMTriangles27
import Derived.Test.YthoodjjjklbggaaGreatDoorMTriangles28
import Derived.Test.YthoodjjjklbggaaGreatDoorMTriangles22
import Derived.Test.YthoodjjjklbggaaGreatDoorMTriangles07
import Derived.Test.YthoodjjjklbggaaGreatDoorMTriangles04
import Derived.Test.YthoodjjjklbggaaGreatDoorMTriangles10
import Derived.Deep.RegionHeld3
import Derived.Deep.DeepCutAuto
namespace Go.Proofs.YthoodjjjklbggaaGreatDoor
open Go.RowKit Go.Sort
set_option maxRecDepth 100000
/-- a tour in a box -/
def TvB (W : World) (b n : Nat) (Y : Option Addr) (c : Nat) (xs : List Int) : Prop := TBox W b n (.slice Y n c) ∧ Rd W (.slice Y n c) xs
theorem TvB.below {W W' : World} {b n : Nat} {Y : Option Addr} {c : Nat} {xs : List Int} (h : TvB W b n Y c xs) (hb : Below W.heap.size W W') : TvB W' b n Y c xs := ⟨h.1.below hb, h.2.below hb⟩
theorem TvB.new {W : World} {n : Nat} {Y : Option Addr} {c : Nat} {xs : List Int} (h : Rd W (.slice Y n c) xs) (T : TypeId) : TvB (W.alloc (.cells #[.int .i64 n, .slice Y n c] T)) W.heap.size n Y c xs :=
  ⟨TBox.new W n (.slice Y n c) T, h.below (below_alloc1 W _)⟩
/-- how often players before k are in triangles -/
def atS (rows : List (List Int)) (k : Nat) : Int := sumN (fun x => (cntR rows x rows.length : Int)) k
theorem atS_bd (rows : List (List Int)) : ∀ k, 0 ≤ atS rows k ∧ atS rows k ≤ rows.length * k
  | 0 => by simp [atS, sumN]
  | k + 1 => by
    have h1 := atS_bd rows k
    have h2 := cntR_le rows k rows.length
    unfold atS at h1 ⊢
    rw [sumN]
    have : ((rows.length : Nat) : Int) * ((k + 1 : Nat) : Int) = rows.length * k + rows.length := by push_cast; rw [Int.mul_add, Int.mul_one]
    rw [this]
    omega
set_option maxHeartbeats 16000000 in
theorem lawFnTriangles (v0 : Value) (w : World) (h0 : BytesV w w.heap.size v0) :
    Calls Tryz.prog 3 #[v0] w fun e w' => e = .returned (.bool true) ∧ Below w.heap.size w w' := by
  have HV := Lib.hid h0
  obtain ⟨A0, k0, c0, rfl, hk0, hc0, -⟩ := h0
  unfold maxLen at hc0
  by_cases hn0 : k0 ≤ 1048576
  case neg =>
    have hd0 : decide ((1048576 : Int) < (k0 : Int)) = true := by simp; omega
    go_enter Tryz.func3, Tryz.ntmps3
    go_wp2
    go_ret
    exact ⟨rfl, Below.refl _ _⟩
  have hd0 : decide ((1048576 : Int) < (k0 : Int)) = false := by simp; omega
  have KN : Hid (∀ W, Below w.heap.size w W → BytesV W W.heap.size (.slice A0 k0 c0)) := Lib.hid fun W h => (HV.out.keep (fun p hp => h.cell hp)).mono h.size
  go_enter Tryz.func3, Tryz.ntmps3
  go_wp2_with fail
  refine (makeTour_any w (.slice A0 k0 c0) 0 7 0 7 rfl rfl (by omega) (by omega) (by omega) HV.out).mono ?_
  rintro e w1 ⟨n, sl, xs, rfl, hn7, hp, ho, hb⟩
  have HP := Lib.hid hp
  have h1 : 1 ≤ n := by have := hp.1; omega
  have h8 : n ≤ 8 := by omega
  obtain ⟨Y, cy, rfl, -⟩ := ho.form
  rw [tour_len hp] at ho ⊢
  have bb := below_alloc1 w1 (.cells #[.int .i64 n, .slice Y n cy] 25)
  obtain ⟨bx, hbx⟩ : ∃ bx, bx = w1.heap.size := ⟨_, rfl⟩
  have HB2 := Lib.hid (Below.then hb bb)
  have HT2 : Hid (TvB (w1.alloc (.cells #[.int .i64 n, .slice Y n cy] 25)) bx n Y cy xs) := Lib.hid (by rw [hbx]; exact TvB.new ho.rd _)
  have y0 := HT2.out.1.1
  have y1 := HT2.out.1.2
  clear ho hb hp bb
  go_wp2_with fail
  rw [← hbx]
  generalize w1.alloc (.cells #[.int .i64 n, .slice Y n cy] 25) = w2 at *
  clear hbx
  refine (cTriOf HP.out HT2.out.2).mono ?_
  rintro e w3 ⟨tv, rfl, ho3, hb3⟩
  obtain ⟨AT, cT, rfl, hcT, hlT, -⟩ := ho3.form
  unfold maxLen at hcT
  have HT3 := Lib.hid (HT2.out.below hb3)
  have HB3 := Lib.hid (Below.then HB2.out hb3)
  have HO3 := Lib.hid ho3
  have htl : (triA xs n n).length ≤ 512 := by
    have h1 := triA_len xs n n
    have h2 := nmul_le h8 (Nat.le_refl n)
    omega
  have HCT := Lib.hid (tri_count HP.out)
  have HAT : Hid (atS (triA xs n n) n = 3 * ((triA xs n n).length : Int)) := Lib.hid (at_total HP.out)
  obtain ⟨t, ht⟩ : ∃ t, t = (triA xs n n).length := ⟨_, rfl⟩
  have HTT := Lib.hid ht
  rw [← ht] at HCT HAT hlT htl HO3 ⊢
  clear ht ho3 hb3 y0 y1 HT2 HB2
  have y0 := HT3.out.1.1
  have y1 := HT3.out.1.2
  go_wp2_with fail
  refine (cTriCount HP.out HT3.out.2).mono ?_
  rintro e w4 ⟨rfl, hb4⟩
  rw [← HCT.out]
  have HT4 := Lib.hid (HT3.out.below hb4)
  have HB4 := Lib.hid (Below.then HB3.out hb4)
  have HO4 := Lib.hid (HO3.out.below hb4)
  clear hb4 HT3 HB3 HO3 y0 y1
  go_wp2
  go_loopw [5, 6] (fun t5 t6 wr => ∃ a : Nat, a ≤ n ∧ t6 = .int .i64 a ∧ t5 = .int .i64 (atS (triA xs n n) a) ∧ Hid (TvB wr bx n Y cy xs) ∧ Hid (Below w.heap.size w wr) ∧ Hid (Below w4.heap.size w4 wr)) (fun _ t6 _ => n - (intOf t6).toNat)
  case atStart => exact ⟨0, by omega, rfl, rfl, HT4, HB4, Lib.hid (Below.refl _ _)⟩
  case round =>
    obtain ⟨wk, rfl⟩ : ∃ x, x = wr := ⟨_, rfl⟩
    obtain ⟨a, ha, rfl, rfl, HT, HB, HB44⟩ := hrel
    clear HT4 HB4
    have y0 := HT.out.1.1
    have y1 := HT.out.1.2
    by_cases hlt : a < n
    · as_aux_lemma =>
      have hda : decide ((a : Int) < (n : Int)) = true := by rw [decide_eq_true_eq]; omega
      have hbd := atS_bd (triA xs n n) a
      have hmu : ((triA xs n n).length : Int) * (a : Int) ≤ 512 * 8 := by
        rw [← HTT.out]
        have : t * a ≤ 512 * 8 := Nat.mul_le_mul htl (by omega)
        exact_mod_cast this
      have hsu : atS (triA xs n n) (a + 1) = atS (triA xs n n) a + (cntR (triA xs n n) a (triA xs n n).length : Nat) := rfl
      have hcl2 : cntR (triA xs n n) a (triA xs n n).length ≤ 512 := Nat.le_trans (cntR_le _ _ _) (by rw [← HTT.out]; exact htl)
      have HSU := Lib.hid hsu
      clear hsu
      go_wp2_with fail
      refine (cTriAt HP.out HT.out.2 hlt).mono ?_
      rintro e w5 ⟨rfl, hb5⟩
      have HT5 := Lib.hid (HT.out.below hb5)
      have HB5 := Lib.hid (Below.then HB.out hb5)
      have HB45 := Lib.hid (Below.then HB44.out hb5)
      clear hb5 y0 y1
      generalize cntR (triA xs n n) a (triA xs n n).length = N at *
      generalize atS (triA xs n n) a = M at *
      generalize ((triA xs n n).length : Int) * (a : Int) = Q at *
      go_wp2
      go_roundw
      case rel => exact ⟨a + 1, by omega, by go_num, by rw [HSU.out], HT5, HB5, HB45⟩
      case measure => simp [intOf]; omega
    · obtain rfl : n = a := by omega
      have hda : decide ((n : Int) < (n : Int)) = false := by simp
      have hat : atS (triA xs n n) n = 3 * (t : Int) := HAT.out
      rw [hat]
      have HO5 := Lib.hid (HO4.out.below HB44.out)
      clear hat HB44 HO4
      go_wp2
      have HFT := HT
      have HFB := HB
      clear HT HB y0 y1
      go_loopw [48] (fun t48 wr => ∃ i : Nat, i ≤ t ∧ t48 = .int .i64 i ∧ Hid (TvB wr bx n Y cy xs) ∧ Hid (OwnRows wr w2.heap.size (.slice AT t cT) (triA xs n n)) ∧ Hid (Below w.heap.size w wr)) (fun t48 _ => t - (intOf t48).toNat)
      case atStart => exact ⟨0, by omega, rfl, HFT, HO5, HFB⟩
      case round =>
        obtain ⟨wl, rfl⟩ : ∃ x, x = wr := ⟨_, rfl⟩
        obtain ⟨i, hi, rfl, HT, HO, HB⟩ := hrel
        clear HFT HO5 HFB
        by_cases hlt : i < t
        · obtain ⟨a, b, f, er, htg⟩ : ∃ a b f : Nat, (triA xs n n).getD i [] = [(a : Int), (b : Int), (f : Int)] ∧ tgP xs n a b f := by
            rw [List.getD_eq_getElem?_getD, List.getElem?_eq_getElem (by rw [← HTT.out]; exact hlt)]
            exact (mem_tri HP.out).1 (List.getElem_mem _)
          obtain ⟨gt, Br, dr, rfl, hgt, -, -, -, zr, hor⟩ := rows_get HO.out (j := i) (by rw [← HTT.out]; exact hlt)
          rw [er] at zr hor
          have HOW := Lib.hid hor.rd
          have zr3 : wl.cell? ⟨gt, i, none⟩ = some (.slice Br 3 dr) := zr
          have HER := Lib.hid er
          have HTG := Lib.hid htg
          obtain ⟨n1, n2, n3⟩ := tg_ne HP.out htg
          have ha := htg.1
          have hb := htg.2.1
          have hf := htg.2.2.1
          have hzt := rv3_tour HP.out ha hb hf n1 n2 n3
          have HZT := Lib.hid hzt
          have y0 := HT.out.1.1
          have y1 := HT.out.1.2
          clear zr hor er htg hzt
          go_wp2_with fail
          refine (cRevTri HP.out HT.out.2 HTG.out HOW.out).mono ?_
          rintro e w6 ⟨Z, cz, rfl, ho6, hb6⟩
          have hr6 := ho6.rd
          have bb := below_alloc1 w6 (.cells #[.int .i64 n, .slice Z n cz] 25)
          have b68 := Below.then hb6 bb
          obtain ⟨bu, hbu⟩ : ∃ bu, bu = w6.heap.size := ⟨_, rfl⟩
          have HU8 : Hid (TvB (w6.alloc (.cells #[.int .i64 n, .slice Z n cz] 25)) bu n Z cz (rv3 xs a b f)) := Lib.hid (by rw [hbu]; exact TvB.new hr6 _)
          have HT8 := Lib.hid (HT.out.below b68)
          have HB8 := Lib.hid (Below.then HB.out b68)
          have HO8 := Lib.hid (HO.out.below b68)
          have HOW8 := Lib.hid (HOW.out.below b68)
          clear hr6 bb b68 ho6 hb6 y0 y1 HT HB HO HOW zr3 hgt
          go_wp2_with fail
          rw [← hbu]
          generalize w6.alloc (.cells #[.int .i64 n, .slice Z n cz] 25) = w8 at *
          clear hbu
          have Kt : Hid (∀ W, Below w8.heap.size w8 W → Calls Tryz.prog 9 #[.agg #[.int .i64 n, .slice Y n cy], .slice Br 3 dr] W fun e w' => e = .returned (.bool true) ∧ Below W.heap.size W w') := Lib.hid fun W hW => by
            have := cIsTri HP.out (HT8.out.below hW).2 ha hb hf (HOW8.out.below hW)
            rwa [(tg_iff HP.out ha hb hf).2 HTG.out] at this
          have Ku : Hid (∀ W, Below w8.heap.size w8 W → Calls Tryz.prog 9 #[.agg #[.int .i64 n, .slice Z n cz], .slice Br 3 dr] W fun e w' => e = .returned (.bool false) ∧ Below W.heap.size W w') := Lib.hid fun W hW => by
            have := cIsTri HZT.out (HU8.out.below hW).2 ha hb hf (HOW8.out.below hW)
            rwa [rv3_not HP.out HTG.out] at this
          have Ks1 : Hid (∀ W, Below w8.heap.size w8 W → Calls Tryz.prog 11 #[.agg #[.int .i64 n, .slice Z n cz]] W fun e w' => ∃ C q, e = .returned (.slice C n q) ∧ Rd w' (.slice C n q) (scL xs n) ∧ Below W.heap.size W w') := Lib.hid fun W hW => by
            have := scores_any n _ _ _ (HU8.out.below hW).2 HZT.out
            rw [rv3_scores HP.out HTG.out] at this
            exact this.mono fun e w' ⟨C, q, e1, o, b⟩ => ⟨C, q, e1, o.rd, b⟩
          have Ks2 : Hid (∀ W, Below w8.heap.size w8 W → Calls Tryz.prog 11 #[.agg #[.int .i64 n, .slice Y n cy]] W fun e w' => ∃ C q, e = .returned (.slice C n q) ∧ Rd w' (.slice C n q) (scL xs n) ∧ Below W.heap.size W w') := Lib.hid fun W hW =>
            (scores_any n _ _ _ (HT8.out.below hW).2 HP.out).mono fun e w' ⟨C, q, e1, o, b⟩ => ⟨C, q, e1, o.rd, b⟩
          have Kq : Hid (∀ W v1 v2, Rd W v1 (scL xs n) → Rd W v2 (scL xs n) → Calls Tryz.prog 10 #[v1, v2] W fun e w' => e = .returned (.bool true) ∧ W = w') := Lib.hid fun W v1 v2 a b => same_yes v1 v2 _ W a b
          have Kd : Hid (∀ W, Below w8.heap.size w8 W → Calls Tryz.prog 12 #[.agg #[.int .i64 n, .slice Y n cy], .agg #[.int .i64 n, .slice Z n cz]] W fun e w' => e = .returned (.int .i64 3) ∧ Below W.heap.size W w') := Lib.hid fun W hW => by
            have := cDiff HP.out (HT8.out.below hW).2 HZT.out (HU8.out.below hW).2
            rwa [df_three HP.out HTG.out] at this
          have BB0 : Below w8.heap.size w8 w8.drew := (Below.refl _ _).drew
          by_cases hi0 : i = 0
          · subst hi0
            as_aux_lemma =>
            have KP : Hid (∀ W, Below w8.heap.size w8 W → (W.cell? ⟨bx, 0, none⟩ = some (.int .i64 n) ∧ W.cell? ⟨bx, 1, none⟩ = some (.slice Y n cy) ∧ W.cell? ⟨bu, 0, none⟩ = some (.int .i64 n) ∧ W.cell? ⟨bu, 1, none⟩ = some (.slice Z n cz))) := Lib.hid fun W hW => ⟨(HT8.out.below hW).1.1, (HT8.out.below hW).1.2, (HU8.out.below hW).1.1, (HU8.out.below hW).1.2⟩
            refine wp_region_held_drew (S := fun W => W.cell? ⟨bx, 0, none⟩ = some (.int .i64 n) ∧ W.cell? ⟨bx, 1, none⟩ = some (.slice Y n cy) ∧ W.cell? ⟨bu, 0, none⟩ = some (.int .i64 n) ∧ W.cell? ⟨bu, 1, none⟩ = some (.slice Z n cz)) (by kernel_rfl) (KP.out _ BB0) (fun hS0 => ?_)
            refine hTake (i := 0) (v := ?v0_1) rfl (by kernel_rfl) (by kernel_rfl) (by kernel_rfl) (fun _ _ _ h => h) (Or.inl ⟨by rfl, ?hy0_1⟩) hS0 ?rest0_1
            case hy0_1 =>
              intro W hSw
              (try dsimp only at hSw)
              go_simp
              first | done | (with_reducible rfl)
            try simp only [Act.put, List.setIfInBounds_toArray, List.set_cons_zero, List.set_cons_succ]
            refine hTake (i := 1) (v := ?v1_2) rfl (by kernel_rfl) (by kernel_rfl) (by kernel_rfl) (fun _ _ _ h => h) (Or.inl ⟨by rfl, ?hy1_2⟩) hS0 ?rest1_2
            case hy1_2 =>
              intro W hSw
              (try dsimp only at hSw)
              go_simp
              first | done | (with_reducible rfl)
            try simp only [Act.put, List.setIfInBounds_toArray, List.set_cons_zero, List.set_cons_succ]
            refine wpAnyH_ready (rs := [2]) (by kernel_rfl) (by simp) ?_
            refine hStep (i := 2) rfl (fun K hK => ?_) AllReadyH.nil
            go_simp; go_at_call 9; refine (Kt.out _ BB0).mono ?_; rintro e v1 ⟨rfl, hb⟩; have BB1 := Below.then BB0 hb; clear hb; try go_wp2_with fail
            refine hK.out _ _ ?_ (fun hS1 => ?_)
            · (try dsimp only); exact KP.out _ BB1
            clear hK K
            try simp only [Act.put, List.setIfInBounds_toArray, List.set_cons_zero, List.set_cons_succ]
            refine hTake (i := 3) (v := ?v3_3) rfl (by kernel_rfl) (by kernel_rfl) (by kernel_rfl) (fun _ _ _ h => h) (Or.inl ⟨by rfl, ?hy3_3⟩) hS1 ?rest3_3
            case hy3_3 =>
              intro W hSw
              (try dsimp only at hSw)
              go_simp
              first | done | (with_reducible rfl)
            try simp only [Act.put, List.setIfInBounds_toArray, List.set_cons_zero, List.set_cons_succ]
            refine hTake (i := 4) (v := ?v4_4) rfl (by kernel_rfl) (by kernel_rfl) (by kernel_rfl) (fun _ _ _ h => h) (Or.inl ⟨by rfl, ?hy4_4⟩) hS1 ?rest4_4
            case hy4_4 =>
              intro W hSw
              (try dsimp only at hSw)
              go_simp
              first | done | (with_reducible rfl)
            try simp only [Act.put, List.setIfInBounds_toArray, List.set_cons_zero, List.set_cons_succ]
            refine hTake (i := 5) (v := ?v5_5) rfl (by kernel_rfl) (by kernel_rfl) (by kernel_rfl) (fun _ _ _ h => h) (Or.inl ⟨by rfl, ?hy5_5⟩) hS1 ?rest5_5
            case hy5_5 =>
              intro W hSw
              (try dsimp only at hSw)
              go_simp
              first | done | (with_reducible rfl)
            try simp only [Act.put, List.setIfInBounds_toArray, List.set_cons_zero, List.set_cons_succ]
            refine hTake (i := 6) (v := ?v6_6) rfl (by kernel_rfl) (by kernel_rfl) (by kernel_rfl) (fun _ _ _ h => h) (Or.inl ⟨by rfl, ?hy6_6⟩) hS1 ?rest6_6
            case hy6_6 =>
              intro W hSw
              (try dsimp only at hSw)
              go_simp
              first | done | (with_reducible rfl)
            try simp only [Act.put, List.setIfInBounds_toArray, List.set_cons_zero, List.set_cons_succ]
            refine hTake (i := 7) (v := ?v7_7) rfl (by kernel_rfl) (by kernel_rfl) (by kernel_rfl) (fun _ _ _ h => h) (Or.inl ⟨by rfl, ?hy7_7⟩) hS1 ?rest7_7
            case hy7_7 =>
              intro W hSw
              (try dsimp only at hSw)
              go_simp
              first | done | (with_reducible rfl)
            try simp only [Act.put, List.setIfInBounds_toArray, List.set_cons_zero, List.set_cons_succ]
            refine hTake (i := 8) (v := ?v8_8) rfl (by kernel_rfl) (by kernel_rfl) (by kernel_rfl) (fun _ _ _ h => h) (Or.inl ⟨by rfl, ?hy8_8⟩) hS1 ?rest8_8
            case hy8_8 =>
              intro W hSw
              (try dsimp only at hSw)
              go_simp
              first | done | (with_reducible rfl)
            try simp only [Act.put, List.setIfInBounds_toArray, List.set_cons_zero, List.set_cons_succ]
            refine hTake (i := 9) (v := ?v9_9) rfl (by kernel_rfl) (by kernel_rfl) (by kernel_rfl) (fun _ _ _ h => h) (Or.inl ⟨by rfl, ?hy9_9⟩) hS1 ?rest9_9
            case hy9_9 =>
              intro W hSw
              (try dsimp only at hSw)
              go_simp
              first | done | (with_reducible rfl)
            try simp only [Act.put, List.setIfInBounds_toArray, List.set_cons_zero, List.set_cons_succ]
            refine hTake (i := 11) (v := ?v11_10) rfl (by kernel_rfl) (by kernel_rfl) (by kernel_rfl) (fun _ _ _ h => h) (Or.inl ⟨by rfl, ?hy11_10⟩) hS1 ?rest11_10
            case hy11_10 =>
              intro W hSw
              (try dsimp only at hSw)
              go_simp
              first | done | (with_reducible rfl)
            try simp only [Act.put, List.setIfInBounds_toArray, List.set_cons_zero, List.set_cons_succ]
            refine wpAnyH_ready (rs := [10]) (by kernel_rfl) (by simp) ?_
            refine hStep (i := 10) rfl (fun K hK => ?_) AllReadyH.nil
            go_simp; go_at_call 11; refine (Ks1.out _ BB1).mono ?_; rintro e v2 ⟨C1, q1, rfl, ho1, hb⟩; have BB2 := Below.then BB1 hb; clear hb; try go_wp2_with fail
            refine hK.out _ _ ?_ (fun hS2 => ?_)
            · (try dsimp only); exact KP.out _ BB2
            clear hK K
            try simp only [Act.put, List.setIfInBounds_toArray, List.set_cons_zero, List.set_cons_succ]
            refine wpAnyH_ready (rs := [12]) (by kernel_rfl) (by simp) ?_
            refine hStep (i := 12) rfl (fun K hK => ?_) AllReadyH.nil
            go_simp; go_at_call 11; refine (Ks2.out _ BB2).mono ?_; rintro e v3 ⟨C2, q2, rfl, ho2, hb⟩; have BB3 := Below.then BB2 hb; have ho1' := ho1.below hb; clear hb; try go_wp2_with fail
            refine hK.out _ _ ?_ (fun hS3 => ?_)
            · (try dsimp only); exact KP.out _ BB3
            clear hK K
            try simp only [Act.put, List.setIfInBounds_toArray, List.set_cons_zero, List.set_cons_succ]
            refine wpAnyH_ready (rs := [13]) (by kernel_rfl) (by simp) ?_
            refine hStep (i := 13) rfl (fun K hK => ?_) AllReadyH.nil
            go_simp; go_at_call 10; refine (Kq.out _ _ _ ho1' ho2).mono ?_; rintro e v4 ⟨rfl, rfl⟩; have BB4 := BB3; try go_wp2_with fail
            refine hK.out _ _ ?_ (fun hS4 => ?_)
            · (try dsimp only); exact KP.out _ BB4
            clear hK K
            try simp only [Act.put, List.setIfInBounds_toArray, List.set_cons_zero, List.set_cons_succ]
            refine hTake (i := 14) (v := ?v14_11) rfl (by kernel_rfl) (by kernel_rfl) (by kernel_rfl) (fun _ _ _ h => h) (Or.inl ⟨by rfl, ?hy14_11⟩) hS4 ?rest14_11
            case hy14_11 =>
              intro W hSw
              (try dsimp only at hSw)
              go_simp
              first | done | (with_reducible rfl)
            try simp only [Act.put, List.setIfInBounds_toArray, List.set_cons_zero, List.set_cons_succ]
            refine hTake (i := 15) (v := ?v15_12) rfl (by kernel_rfl) (by kernel_rfl) (by kernel_rfl) (fun _ _ _ h => h) (Or.inl ⟨by rfl, ?hy15_12⟩) hS4 ?rest15_12
            case hy15_12 =>
              intro W hSw
              (try dsimp only at hSw)
              go_simp
              first | done | (with_reducible rfl)
            try simp only [Act.put, List.setIfInBounds_toArray, List.set_cons_zero, List.set_cons_succ]
            refine hTake (i := 16) (v := ?v16_13) rfl (by kernel_rfl) (by kernel_rfl) (by kernel_rfl) (fun _ _ _ h => h) (Or.inl ⟨by rfl, ?hy16_13⟩) hS4 ?rest16_13
            case hy16_13 =>
              intro W hSw
              (try dsimp only at hSw)
              go_simp
              first | done | (with_reducible rfl)
            try simp only [Act.put, List.setIfInBounds_toArray, List.set_cons_zero, List.set_cons_succ]
            refine hTake (i := 17) (v := ?v17_14) rfl (by kernel_rfl) (by kernel_rfl) (by kernel_rfl) (fun _ _ _ h => h) (Or.inl ⟨by rfl, ?hy17_14⟩) hS4 ?rest17_14
            case hy17_14 =>
              intro W hSw
              (try dsimp only at hSw)
              go_simp
              first | done | (with_reducible rfl)
            try simp only [Act.put, List.setIfInBounds_toArray, List.set_cons_zero, List.set_cons_succ]
            refine hTake (i := 18) (v := ?v18_15) rfl (by kernel_rfl) (by kernel_rfl) (by kernel_rfl) (fun _ _ _ h => h) (Or.inl ⟨by rfl, ?hy18_15⟩) hS4 ?rest18_15
            case hy18_15 =>
              intro W hSw
              (try dsimp only at hSw)
              go_simp
              first | done | (with_reducible rfl)
            try simp only [Act.put, List.setIfInBounds_toArray, List.set_cons_zero, List.set_cons_succ]
            refine wpAnyH_ready (rs := [19]) (by kernel_rfl) (by simp) ?_
            refine hStep (i := 19) rfl (fun K hK => ?_) AllReadyH.nil
            go_simp; go_at_call 12; refine (Kd.out _ BB4).mono ?_; rintro e v5 ⟨rfl, hb⟩; have BB5 := Below.then BB4 hb; clear hb; try go_wp2_with fail
            refine hK.out _ _ ?_ (fun hS5 => ?_)
            · (try dsimp only); exact KP.out _ BB5
            clear hK K
            try simp only [Act.put, List.setIfInBounds_toArray, List.set_cons_zero, List.set_cons_succ]
            refine hTake (i := 20) (v := ?v20_16) rfl (by kernel_rfl) (by kernel_rfl) (by kernel_rfl) (fun _ _ _ h => h) (Or.inl ⟨by rfl, ?hy20_16⟩) hS5 ?rest20_16
            case hy20_16 =>
              intro W hSw
              (try dsimp only at hSw)
              go_simp
              first | done | (with_reducible rfl)
            try simp only [Act.put, List.setIfInBounds_toArray, List.set_cons_zero, List.set_cons_succ]
            refine hTake (i := 21) (v := ?v21_17) rfl (by kernel_rfl) (by kernel_rfl) (by kernel_rfl) (fun _ _ _ h => h) (Or.inl ⟨by rfl, ?hy21_17⟩) hS5 ?rest21_17
            case hy21_17 =>
              intro W hSw
              (try dsimp only at hSw)
              go_simp
              first | done | (with_reducible rfl)
            try simp only [Act.put, List.setIfInBounds_toArray, List.set_cons_zero, List.set_cons_succ]
            refine hTake (i := 22) (v := ?v22_18) rfl (by kernel_rfl) (by kernel_rfl) (by kernel_rfl) (fun _ _ _ h => h) (Or.inl ⟨by rfl, ?hy22_18⟩) hS5 ?rest22_18
            case hy22_18 =>
              intro W hSw
              (try dsimp only at hSw)
              go_simp
              first | done | (with_reducible rfl)
            try simp only [Act.put, List.setIfInBounds_toArray, List.set_cons_zero, List.set_cons_succ]
            refine hTake (i := 23) (v := ?v23_19) rfl (by kernel_rfl) (by kernel_rfl) (by kernel_rfl) (fun _ _ _ h => h) (Or.inl ⟨by rfl, ?hy23_19⟩) hS5 ?rest23_19
            case hy23_19 =>
              intro W hSw
              (try dsimp only at hSw)
              go_simp
              first | done | (with_reducible rfl)
            try simp only [Act.put, List.setIfInBounds_toArray, List.set_cons_zero, List.set_cons_succ]
            refine hTake (i := 24) (v := ?v24_20) rfl (by kernel_rfl) (by kernel_rfl) (by kernel_rfl) (fun _ _ _ h => h) (Or.inl ⟨by rfl, ?hy24_20⟩) hS5 ?rest24_20
            case hy24_20 =>
              intro W hSw
              (try dsimp only at hSw)
              go_simp
              first | done | (with_reducible rfl)
            try simp only [Act.put, List.setIfInBounds_toArray, List.set_cons_zero, List.set_cons_succ]
            refine wpAnyH_ready (rs := [25]) (by kernel_rfl) (by simp) ?_
            refine hStep (i := 25) rfl (fun K hK => ?_) AllReadyH.nil
            go_simp; go_at_call 9; refine (Ku.out _ BB5).mono ?_; rintro e v6 ⟨rfl, hb⟩; have BB6 := Below.then BB5 hb; clear hb; try go_wp2_with fail
            refine hK.out _ _ ?_ (fun hS6 => ?_)
            · (try dsimp only); exact KP.out _ BB6
            clear hK K
            try simp only [Act.put, List.setIfInBounds_toArray, List.set_cons_zero, List.set_cons_succ]
            refine hTake (i := 26) (v := ?v26_21) rfl (by kernel_rfl) (by kernel_rfl) (by kernel_rfl) (fun _ _ _ h => h) (Or.inl ⟨by rfl, ?hy26_21⟩) hS6 ?rest26_21
            case hy26_21 =>
              intro W hSw
              (try dsimp only at hSw)
              go_simp
              first | done | (with_reducible rfl)
            try simp only [Act.put, List.setIfInBounds_toArray, List.set_cons_zero, List.set_cons_succ]
            refine hTake (i := 27) (v := ?v27_22) rfl (by kernel_rfl) (by kernel_rfl) (by kernel_rfl) (fun _ _ _ h => h) (Or.inl ⟨by rfl, ?hy27_22⟩) hS6 ?rest27_22
            case hy27_22 =>
              intro W hSw
              (try dsimp only at hSw)
              go_simp
              first | done | (with_reducible rfl)
            try simp only [Act.put, List.setIfInBounds_toArray, List.set_cons_zero, List.set_cons_succ]
            refine hTake (i := 28) (v := ?v28_23) rfl (by kernel_rfl) (by kernel_rfl) (by kernel_rfl) (fun _ _ _ h => h) (Or.inl ⟨by rfl, ?hy28_23⟩) hS6 ?rest28_23
            case hy28_23 =>
              intro W hSw
              (try dsimp only at hSw)
              go_simp
              first | done | (with_reducible rfl)
            try simp only [Act.put, List.setIfInBounds_toArray, List.set_cons_zero, List.set_cons_succ]
            refine hTake (i := 29) (v := ?v29_24) rfl (by kernel_rfl) (by kernel_rfl) (by kernel_rfl) (fun _ _ _ h => h) (Or.inl ⟨by rfl, ?hy29_24⟩) hS6 ?rest29_24
            case hy29_24 =>
              intro W hSw
              (try dsimp only at hSw)
              go_simp
              first | done | (with_reducible rfl)
            try simp only [Act.put, List.setIfInBounds_toArray, List.set_cons_zero, List.set_cons_succ]
            refine hTake (i := 30) (v := ?v30_25) rfl (by kernel_rfl) (by kernel_rfl) (by kernel_rfl) (fun _ _ _ h => h) (Or.inl ⟨by rfl, ?hy30_25⟩) hS6 ?rest30_25
            case hy30_25 =>
              intro W hSw
              (try dsimp only at hSw)
              go_simp
              first | done | (with_reducible rfl)
            try simp only [Act.put, List.setIfInBounds_toArray, List.set_cons_zero, List.set_cons_succ]
            refine hSkip (i := 31) rfl (by kernel_rfl) (by kernel_rfl) (by kernel_rfl) (fun _ _ _ h => h) (by first | rfl | (simp [Region.wanted, yielded, *]; done)) hS6 ?_
            try simp only [Act.put, List.setIfInBounds_toArray, List.set_cons_zero, List.set_cons_succ]
            refine hSkip (i := 32) rfl (by kernel_rfl) (by kernel_rfl) (by kernel_rfl) (fun _ _ _ h => h) (by first | rfl | (simp [Region.wanted, yielded, *]; done)) hS6 ?_
            try simp only [Act.put, List.setIfInBounds_toArray, List.set_cons_zero, List.set_cons_succ]
            refine hSkip (i := 33) rfl (by kernel_rfl) (by kernel_rfl) (by kernel_rfl) (fun _ _ _ h => h) (by first | rfl | (simp [Region.wanted, yielded, *]; done)) hS6 ?_
            try simp only [Act.put, List.setIfInBounds_toArray, List.set_cons_zero, List.set_cons_succ]
            refine hSkip (i := 34) rfl (by kernel_rfl) (by kernel_rfl) (by kernel_rfl) (fun _ _ _ h => h) (by first | rfl | (simp [Region.wanted, yielded, *]; done)) hS6 ?_
            try simp only [Act.put, List.setIfInBounds_toArray, List.set_cons_zero, List.set_cons_succ]
            refine hSkip (i := 35) rfl (by kernel_rfl) (by kernel_rfl) (by kernel_rfl) (fun _ _ _ h => h) (by first | rfl | (simp [Region.wanted, yielded, *]; done)) hS6 ?_
            try simp only [Act.put, List.setIfInBounds_toArray, List.set_cons_zero, List.set_cons_succ]
            refine hSkip (i := 36) rfl (by kernel_rfl) (by kernel_rfl) (by kernel_rfl) (fun _ _ _ h => h) (by first | rfl | (simp [Region.wanted, yielded, *]; done)) hS6 ?_
            try simp only [Act.put, List.setIfInBounds_toArray, List.set_cons_zero, List.set_cons_succ]
            refine hSkip (i := 37) rfl (by kernel_rfl) (by kernel_rfl) (by kernel_rfl) (fun _ _ _ h => h) (by first | rfl | (simp [Region.wanted, yielded, *]; done)) hS6 ?_
            try simp only [Act.put, List.setIfInBounds_toArray, List.set_cons_zero, List.set_cons_succ]
            refine hSkip (i := 38) rfl (by kernel_rfl) (by kernel_rfl) (by kernel_rfl) (fun _ _ _ h => h) (by first | rfl | (simp [Region.wanted, yielded, *]; done)) hS6 ?_
            try simp only [Act.put, List.setIfInBounds_toArray, List.set_cons_zero, List.set_cons_succ]
            refine hTake (i := 39) (v := ?v39_34) rfl (by kernel_rfl) (by kernel_rfl) (by kernel_rfl) (fun _ _ _ h => h) (Or.inl ⟨by rfl, ?hy39_34⟩) hS6 ?rest39_34
            case hy39_34 =>
              intro W hSw
              (try dsimp only at hSw)
              go_simp
              first | done | (with_reducible rfl)
            try simp only [Act.put, List.setIfInBounds_toArray, List.set_cons_zero, List.set_cons_succ]
            refine hTake (i := 40) (v := ?v40_35) rfl (by kernel_rfl) (by kernel_rfl) (by kernel_rfl) (fun _ _ _ h => h) (Or.inl ⟨by rfl, ?hy40_35⟩) hS6 ?rest40_35
            case hy40_35 =>
              intro W hSw
              (try dsimp only at hSw)
              go_simp
              first | done | (with_reducible rfl)
            try simp only [Act.put, List.setIfInBounds_toArray, List.set_cons_zero, List.set_cons_succ]
            refine wpAnyH_done (by kernel_rfl) ?_ _
            have HTn := Lib.hid (HT8.out.below BB6)
            have HBn := Lib.hid (Below.then HB8.out BB6)
            have HOn := Lib.hid (HO8.out.below BB6)
            clear BB0 BB1 BB2 BB3 BB4 BB5 BB6 KP Kt Ku Ks1 Ks2 Kq Kd HT8 HB8 HO8
            go_wp2
            go_roundw
            case rel => exact ⟨1, by omega, by go_num, HTn, HOn, HBn⟩
            case measure => simp [intOf]; omega
          · as_aux_lemma =>
            obtain ⟨p, hp⟩ : ∃ p, i = p + 1 := ⟨i - 1, by omega⟩
            obtain ⟨gt', Bp, dp, egt, -, -, -, -, zp, hop⟩ := rows_get HO8.out (j := p) (by rw [← HTT.out]; omega)
            injection egt with egt
            injection egt with egt _ _
            subst egt
            obtain ⟨a', b', f', ep, -⟩ : ∃ a b f : Nat, (triA xs n n).getD p [] = [(a : Int), (b : Int), (f : Int)] ∧ tgP xs n a b f := by
              rw [List.getD_eq_getElem?_getD, List.getElem?_eq_getElem (by rw [← HTT.out]; omega)]
              exact (mem_tri HP.out).1 (List.getElem_mem _)
            have hbf := tri_before xs n (i := p) (by rw [← HTT.out]; omega)
            rw [← hp, HER.out, ep] at hbf
            rw [ep] at zp hop
            have HZP := Lib.hid (show w8.cell? ⟨gt, p, none⟩ = some (.slice Bp 3 dp) from zp)
            have HOP := Lib.hid (show Rd w8 (.slice Bp 3 dp) [(a' : Int), (b' : Int), (f' : Int)] from hop.rd)
            have hgl : gt < w8.heap.size := World.block_lt_of_cell? _ _ zp
            have Kb : Hid (∀ W, Below w8.heap.size w8 W → Calls Tryz.prog 13 #[.slice Bp 3 dp, .slice Br 3 dr] W fun e w' => e = .returned (.bool true) ∧ W = w') := Lib.hid fun W hW => by
              have := cBefore (.slice Bp 3 dp) (.slice Br 3 dr) _ _ W (HOP.out.below hW) (HOW8.out.below hW)
              rwa [hbf] at this
            have KP : Hid (∀ W, Below w8.heap.size w8 W → (W.cell? ⟨bx, 0, none⟩ = some (.int .i64 n) ∧ W.cell? ⟨bx, 1, none⟩ = some (.slice Y n cy) ∧ W.cell? ⟨bu, 0, none⟩ = some (.int .i64 n) ∧ W.cell? ⟨bu, 1, none⟩ = some (.slice Z n cz) ∧ W.cell? ⟨gt, p, none⟩ = some (.slice Bp 3 dp))) := Lib.hid fun W hW => ⟨(HT8.out.below hW).1.1, (HT8.out.below hW).1.2, (HU8.out.below hW).1.1, (HU8.out.below hW).1.2, (hW.cell (p := ⟨gt, p, none⟩) hgl).trans HZP.out⟩
            have hw1 : IntKind.i64.wrap ((i : Int) - 1) = (p : Int) := by rw [IntWalk.i64_in _ (by omega)]; omega
            have hw2 : wrap64 ((i : Int) - 1) = (p : Int) := by rw [IntWalk.wrap64_in _ (by omega)]; omega
            have hpt : p < t := by omega
            have hi1 : decide ((0 : Int) < (i : Int)) = true := by rw [decide_eq_true_eq]; omega
            have hi2 : decide (0 < i) = true := by rw [decide_eq_true_eq]; omega
            have hi3 : 0 < i := by omega
            clear zp hop ep hbf hp
            refine wp_region_held_drew (S := fun W => W.cell? ⟨bx, 0, none⟩ = some (.int .i64 n) ∧ W.cell? ⟨bx, 1, none⟩ = some (.slice Y n cy) ∧ W.cell? ⟨bu, 0, none⟩ = some (.int .i64 n) ∧ W.cell? ⟨bu, 1, none⟩ = some (.slice Z n cz) ∧ W.cell? ⟨gt, p, none⟩ = some (.slice Bp 3 dp)) (by kernel_rfl) (KP.out _ BB0) (fun hS0 => ?_)
            refine hTake (i := 0) (v := ?v0_36) rfl (by kernel_rfl) (by kernel_rfl) (by kernel_rfl) (fun _ _ _ h => h) (Or.inl ⟨by rfl, ?hy0_36⟩) hS0 ?rest0_36
            case hy0_36 =>
              intro W hSw
              (try dsimp only at hSw)
              go_simp
              first | done | (with_reducible rfl)
            try simp only [Act.put, List.setIfInBounds_toArray, List.set_cons_zero, List.set_cons_succ]
            refine hTake (i := 1) (v := ?v1_37) rfl (by kernel_rfl) (by kernel_rfl) (by kernel_rfl) (fun _ _ _ h => h) (Or.inl ⟨by rfl, ?hy1_37⟩) hS0 ?rest1_37
            case hy1_37 =>
              intro W hSw
              (try dsimp only at hSw)
              go_simp
              first | done | (with_reducible rfl)
            try simp only [Act.put, List.setIfInBounds_toArray, List.set_cons_zero, List.set_cons_succ]
            refine wpAnyH_ready (rs := [2]) (by kernel_rfl) (by simp) ?_
            refine hStep (i := 2) rfl (fun K hK => ?_) AllReadyH.nil
            go_simp; go_at_call 9; refine (Kt.out _ BB0).mono ?_; rintro e v1 ⟨rfl, hb⟩; have BB1 := Below.then BB0 hb; clear hb; try go_wp2_with fail
            refine hK.out _ _ ?_ (fun hS1 => ?_)
            · (try dsimp only); exact KP.out _ BB1
            clear hK K
            try simp only [Act.put, List.setIfInBounds_toArray, List.set_cons_zero, List.set_cons_succ]
            refine hTake (i := 3) (v := ?v3_38) rfl (by kernel_rfl) (by kernel_rfl) (by kernel_rfl) (fun _ _ _ h => h) (Or.inl ⟨by rfl, ?hy3_38⟩) hS1 ?rest3_38
            case hy3_38 =>
              intro W hSw
              (try dsimp only at hSw)
              go_simp
              first | done | (with_reducible rfl)
            try simp only [Act.put, List.setIfInBounds_toArray, List.set_cons_zero, List.set_cons_succ]
            refine hTake (i := 4) (v := ?v4_39) rfl (by kernel_rfl) (by kernel_rfl) (by kernel_rfl) (fun _ _ _ h => h) (Or.inl ⟨by rfl, ?hy4_39⟩) hS1 ?rest4_39
            case hy4_39 =>
              intro W hSw
              (try dsimp only at hSw)
              go_simp
              first | done | (with_reducible rfl)
            try simp only [Act.put, List.setIfInBounds_toArray, List.set_cons_zero, List.set_cons_succ]
            refine hTake (i := 5) (v := ?v5_40) rfl (by kernel_rfl) (by kernel_rfl) (by kernel_rfl) (fun _ _ _ h => h) (Or.inl ⟨by rfl, ?hy5_40⟩) hS1 ?rest5_40
            case hy5_40 =>
              intro W hSw
              (try dsimp only at hSw)
              go_simp
              first | done | (with_reducible rfl)
            try simp only [Act.put, List.setIfInBounds_toArray, List.set_cons_zero, List.set_cons_succ]
            refine hTake (i := 6) (v := ?v6_41) rfl (by kernel_rfl) (by kernel_rfl) (by kernel_rfl) (fun _ _ _ h => h) (Or.inl ⟨by rfl, ?hy6_41⟩) hS1 ?rest6_41
            case hy6_41 =>
              intro W hSw
              (try dsimp only at hSw)
              go_simp
              first | done | (with_reducible rfl)
            try simp only [Act.put, List.setIfInBounds_toArray, List.set_cons_zero, List.set_cons_succ]
            refine hTake (i := 7) (v := ?v7_42) rfl (by kernel_rfl) (by kernel_rfl) (by kernel_rfl) (fun _ _ _ h => h) (Or.inl ⟨by rfl, ?hy7_42⟩) hS1 ?rest7_42
            case hy7_42 =>
              intro W hSw
              (try dsimp only at hSw)
              go_simp
              first | done | (with_reducible rfl)
            try simp only [Act.put, List.setIfInBounds_toArray, List.set_cons_zero, List.set_cons_succ]
            refine hTake (i := 8) (v := ?v8_43) rfl (by kernel_rfl) (by kernel_rfl) (by kernel_rfl) (fun _ _ _ h => h) (Or.inl ⟨by rfl, ?hy8_43⟩) hS1 ?rest8_43
            case hy8_43 =>
              intro W hSw
              (try dsimp only at hSw)
              go_simp
              first | done | (with_reducible rfl)
            try simp only [Act.put, List.setIfInBounds_toArray, List.set_cons_zero, List.set_cons_succ]
            refine hTake (i := 9) (v := ?v9_44) rfl (by kernel_rfl) (by kernel_rfl) (by kernel_rfl) (fun _ _ _ h => h) (Or.inl ⟨by rfl, ?hy9_44⟩) hS1 ?rest9_44
            case hy9_44 =>
              intro W hSw
              (try dsimp only at hSw)
              go_simp
              first | done | (with_reducible rfl)
            try simp only [Act.put, List.setIfInBounds_toArray, List.set_cons_zero, List.set_cons_succ]
            refine hTake (i := 11) (v := ?v11_45) rfl (by kernel_rfl) (by kernel_rfl) (by kernel_rfl) (fun _ _ _ h => h) (Or.inl ⟨by rfl, ?hy11_45⟩) hS1 ?rest11_45
            case hy11_45 =>
              intro W hSw
              (try dsimp only at hSw)
              go_simp
              first | done | (with_reducible rfl)
            try simp only [Act.put, List.setIfInBounds_toArray, List.set_cons_zero, List.set_cons_succ]
            refine wpAnyH_ready (rs := [10]) (by kernel_rfl) (by simp) ?_
            refine hStep (i := 10) rfl (fun K hK => ?_) AllReadyH.nil
            go_simp; go_at_call 11; refine (Ks1.out _ BB1).mono ?_; rintro e v2 ⟨C1, q1, rfl, ho1, hb⟩; have BB2 := Below.then BB1 hb; clear hb; try go_wp2_with fail
            refine hK.out _ _ ?_ (fun hS2 => ?_)
            · (try dsimp only); exact KP.out _ BB2
            clear hK K
            try simp only [Act.put, List.setIfInBounds_toArray, List.set_cons_zero, List.set_cons_succ]
            refine wpAnyH_ready (rs := [12]) (by kernel_rfl) (by simp) ?_
            refine hStep (i := 12) rfl (fun K hK => ?_) AllReadyH.nil
            go_simp; go_at_call 11; refine (Ks2.out _ BB2).mono ?_; rintro e v3 ⟨C2, q2, rfl, ho2, hb⟩; have BB3 := Below.then BB2 hb; have ho1' := ho1.below hb; clear hb; try go_wp2_with fail
            refine hK.out _ _ ?_ (fun hS3 => ?_)
            · (try dsimp only); exact KP.out _ BB3
            clear hK K
            try simp only [Act.put, List.setIfInBounds_toArray, List.set_cons_zero, List.set_cons_succ]
            refine wpAnyH_ready (rs := [13]) (by kernel_rfl) (by simp) ?_
            refine hStep (i := 13) rfl (fun K hK => ?_) AllReadyH.nil
            go_simp; go_at_call 10; refine (Kq.out _ _ _ ho1' ho2).mono ?_; rintro e v4 ⟨rfl, rfl⟩; have BB4 := BB3; try go_wp2_with fail
            refine hK.out _ _ ?_ (fun hS4 => ?_)
            · (try dsimp only); exact KP.out _ BB4
            clear hK K
            try simp only [Act.put, List.setIfInBounds_toArray, List.set_cons_zero, List.set_cons_succ]
            refine hTake (i := 14) (v := ?v14_46) rfl (by kernel_rfl) (by kernel_rfl) (by kernel_rfl) (fun _ _ _ h => h) (Or.inl ⟨by rfl, ?hy14_46⟩) hS4 ?rest14_46
            case hy14_46 =>
              intro W hSw
              (try dsimp only at hSw)
              go_simp
              first | done | (with_reducible rfl)
            try simp only [Act.put, List.setIfInBounds_toArray, List.set_cons_zero, List.set_cons_succ]
            refine hTake (i := 15) (v := ?v15_47) rfl (by kernel_rfl) (by kernel_rfl) (by kernel_rfl) (fun _ _ _ h => h) (Or.inl ⟨by rfl, ?hy15_47⟩) hS4 ?rest15_47
            case hy15_47 =>
              intro W hSw
              (try dsimp only at hSw)
              go_simp
              first | done | (with_reducible rfl)
            try simp only [Act.put, List.setIfInBounds_toArray, List.set_cons_zero, List.set_cons_succ]
            refine hTake (i := 16) (v := ?v16_48) rfl (by kernel_rfl) (by kernel_rfl) (by kernel_rfl) (fun _ _ _ h => h) (Or.inl ⟨by rfl, ?hy16_48⟩) hS4 ?rest16_48
            case hy16_48 =>
              intro W hSw
              (try dsimp only at hSw)
              go_simp
              first | done | (with_reducible rfl)
            try simp only [Act.put, List.setIfInBounds_toArray, List.set_cons_zero, List.set_cons_succ]
            refine hTake (i := 17) (v := ?v17_49) rfl (by kernel_rfl) (by kernel_rfl) (by kernel_rfl) (fun _ _ _ h => h) (Or.inl ⟨by rfl, ?hy17_49⟩) hS4 ?rest17_49
            case hy17_49 =>
              intro W hSw
              (try dsimp only at hSw)
              go_simp
              first | done | (with_reducible rfl)
            try simp only [Act.put, List.setIfInBounds_toArray, List.set_cons_zero, List.set_cons_succ]
            refine hTake (i := 18) (v := ?v18_50) rfl (by kernel_rfl) (by kernel_rfl) (by kernel_rfl) (fun _ _ _ h => h) (Or.inl ⟨by rfl, ?hy18_50⟩) hS4 ?rest18_50
            case hy18_50 =>
              intro W hSw
              (try dsimp only at hSw)
              go_simp
              first | done | (with_reducible rfl)
            try simp only [Act.put, List.setIfInBounds_toArray, List.set_cons_zero, List.set_cons_succ]
            refine wpAnyH_ready (rs := [19]) (by kernel_rfl) (by simp) ?_
            refine hStep (i := 19) rfl (fun K hK => ?_) AllReadyH.nil
            go_simp; go_at_call 12; refine (Kd.out _ BB4).mono ?_; rintro e v5 ⟨rfl, hb⟩; have BB5 := Below.then BB4 hb; clear hb; try go_wp2_with fail
            refine hK.out _ _ ?_ (fun hS5 => ?_)
            · (try dsimp only); exact KP.out _ BB5
            clear hK K
            try simp only [Act.put, List.setIfInBounds_toArray, List.set_cons_zero, List.set_cons_succ]
            refine hTake (i := 20) (v := ?v20_51) rfl (by kernel_rfl) (by kernel_rfl) (by kernel_rfl) (fun _ _ _ h => h) (Or.inl ⟨by rfl, ?hy20_51⟩) hS5 ?rest20_51
            case hy20_51 =>
              intro W hSw
              (try dsimp only at hSw)
              go_simp
              first | done | (with_reducible rfl)
            try simp only [Act.put, List.setIfInBounds_toArray, List.set_cons_zero, List.set_cons_succ]
            refine hTake (i := 21) (v := ?v21_52) rfl (by kernel_rfl) (by kernel_rfl) (by kernel_rfl) (fun _ _ _ h => h) (Or.inl ⟨by rfl, ?hy21_52⟩) hS5 ?rest21_52
            case hy21_52 =>
              intro W hSw
              (try dsimp only at hSw)
              go_simp
              first | done | (with_reducible rfl)
            try simp only [Act.put, List.setIfInBounds_toArray, List.set_cons_zero, List.set_cons_succ]
            refine hTake (i := 22) (v := ?v22_53) rfl (by kernel_rfl) (by kernel_rfl) (by kernel_rfl) (fun _ _ _ h => h) (Or.inl ⟨by rfl, ?hy22_53⟩) hS5 ?rest22_53
            case hy22_53 =>
              intro W hSw
              (try dsimp only at hSw)
              go_simp
              first | done | (with_reducible rfl)
            try simp only [Act.put, List.setIfInBounds_toArray, List.set_cons_zero, List.set_cons_succ]
            refine hTake (i := 23) (v := ?v23_54) rfl (by kernel_rfl) (by kernel_rfl) (by kernel_rfl) (fun _ _ _ h => h) (Or.inl ⟨by rfl, ?hy23_54⟩) hS5 ?rest23_54
            case hy23_54 =>
              intro W hSw
              (try dsimp only at hSw)
              go_simp
              first | done | (with_reducible rfl)
            try simp only [Act.put, List.setIfInBounds_toArray, List.set_cons_zero, List.set_cons_succ]
            refine hTake (i := 24) (v := ?v24_55) rfl (by kernel_rfl) (by kernel_rfl) (by kernel_rfl) (fun _ _ _ h => h) (Or.inl ⟨by rfl, ?hy24_55⟩) hS5 ?rest24_55
            case hy24_55 =>
              intro W hSw
              (try dsimp only at hSw)
              go_simp
              first | done | (with_reducible rfl)
            try simp only [Act.put, List.setIfInBounds_toArray, List.set_cons_zero, List.set_cons_succ]
            refine wpAnyH_ready (rs := [25]) (by kernel_rfl) (by simp) ?_
            refine hStep (i := 25) rfl (fun K hK => ?_) AllReadyH.nil
            go_simp; go_at_call 9; refine (Ku.out _ BB5).mono ?_; rintro e v6 ⟨rfl, hb⟩; have BB6 := Below.then BB5 hb; clear hb; try go_wp2_with fail
            refine hK.out _ _ ?_ (fun hS6 => ?_)
            · (try dsimp only); exact KP.out _ BB6
            clear hK K
            try simp only [Act.put, List.setIfInBounds_toArray, List.set_cons_zero, List.set_cons_succ]
            refine hTake (i := 26) (v := ?v26_56) rfl (by kernel_rfl) (by kernel_rfl) (by kernel_rfl) (fun _ _ _ h => h) (Or.inl ⟨by rfl, ?hy26_56⟩) hS6 ?rest26_56
            case hy26_56 =>
              intro W hSw
              (try dsimp only at hSw)
              go_simp
              first | done | (with_reducible rfl)
            try simp only [Act.put, List.setIfInBounds_toArray, List.set_cons_zero, List.set_cons_succ]
            refine hTake (i := 27) (v := ?v27_57) rfl (by kernel_rfl) (by kernel_rfl) (by kernel_rfl) (fun _ _ _ h => h) (Or.inl ⟨by rfl, ?hy27_57⟩) hS6 ?rest27_57
            case hy27_57 =>
              intro W hSw
              (try dsimp only at hSw)
              go_simp
              first | done | (with_reducible rfl)
            try simp only [Act.put, List.setIfInBounds_toArray, List.set_cons_zero, List.set_cons_succ]
            refine hTake (i := 28) (v := ?v28_58) rfl (by kernel_rfl) (by kernel_rfl) (by kernel_rfl) (fun _ _ _ h => h) (Or.inl ⟨by rfl, ?hy28_58⟩) hS6 ?rest28_58
            case hy28_58 =>
              intro W hSw
              (try dsimp only at hSw)
              go_simp
              first | done | (with_reducible rfl)
            try simp only [Act.put, List.setIfInBounds_toArray, List.set_cons_zero, List.set_cons_succ]
            refine hTake (i := 29) (v := ?v29_59) rfl (by kernel_rfl) (by kernel_rfl) (by kernel_rfl) (fun _ _ _ h => h) (Or.inl ⟨by rfl, ?hy29_59⟩) hS6 ?rest29_59
            case hy29_59 =>
              intro W hSw
              (try dsimp only at hSw)
              go_simp
              first | done | (with_reducible rfl)
            try simp only [Act.put, List.setIfInBounds_toArray, List.set_cons_zero, List.set_cons_succ]
            refine hTake (i := 30) (v := ?v30_60) rfl (by kernel_rfl) (by kernel_rfl) (by kernel_rfl) (fun _ _ _ h => h) (Or.inl ⟨by rfl, ?hy30_60⟩) hS6 ?rest30_60
            case hy30_60 =>
              intro W hSw
              (try dsimp only at hSw)
              go_simp
              first | done | (with_reducible rfl)
            try simp only [Act.put, List.setIfInBounds_toArray, List.set_cons_zero, List.set_cons_succ]
            refine hTake (i := 31) (v := ?v31_61) rfl (by kernel_rfl) (by kernel_rfl) (by kernel_rfl) (fun _ _ _ h => h) (Or.inl ⟨by rfl, ?hy31_61⟩) hS6 ?rest31_61
            case hy31_61 =>
              intro W hSw
              (try dsimp only at hSw)
              go_simp
              first | done | (with_reducible rfl)
            try simp only [Act.put, List.setIfInBounds_toArray, List.set_cons_zero, List.set_cons_succ]
            refine hTake (i := 32) (v := ?v32_62) rfl (by kernel_rfl) (by kernel_rfl) (by kernel_rfl) (fun _ _ _ h => h) (Or.inl ⟨by rfl, ?hy32_62⟩) hS6 ?rest32_62
            case hy32_62 =>
              intro W hSw
              (try dsimp only at hSw)
              go_simp
              first | done | (with_reducible rfl)
            try simp only [Act.put, List.setIfInBounds_toArray, List.set_cons_zero, List.set_cons_succ]
            refine hTake (i := 33) (v := ?v33_63) rfl (by kernel_rfl) (by kernel_rfl) (by kernel_rfl) (fun _ _ _ h => h) (Or.inl ⟨by rfl, ?hy33_63⟩) hS6 ?rest33_63
            case hy33_63 =>
              intro W hSw
              (try dsimp only at hSw)
              go_simp
              first | done | (with_reducible rfl)
            try simp only [Act.put, List.setIfInBounds_toArray, List.set_cons_zero, List.set_cons_succ]
            refine hTake (i := 34) (v := ?v34_64) rfl (by kernel_rfl) (by kernel_rfl) (by kernel_rfl) (fun _ _ _ h => h) (Or.inl ⟨by rfl, ?hy34_64⟩) hS6 ?rest34_64
            case hy34_64 =>
              intro W hSw
              (try dsimp only at hSw)
              go_simp
              first | done | (with_reducible rfl)
            try simp only [Act.put, List.setIfInBounds_toArray, List.set_cons_zero, List.set_cons_succ]
            refine hTake (i := 35) (v := ?v35_65) rfl (by kernel_rfl) (by kernel_rfl) (by kernel_rfl) (fun _ _ _ h => h) (Or.inl ⟨by rfl, ?hy35_65⟩) hS6 ?rest35_65
            case hy35_65 =>
              intro W hSw
              (try dsimp only at hSw)
              go_simp
              first | done | (with_reducible rfl)
            try simp only [Act.put, List.setIfInBounds_toArray, List.set_cons_zero, List.set_cons_succ]
            refine hTake (i := 36) (v := ?v36_66) rfl (by kernel_rfl) (by kernel_rfl) (by kernel_rfl) (fun _ _ _ h => h) (Or.inl ⟨by rfl, ?hy36_66⟩) hS6 ?rest36_66
            case hy36_66 =>
              intro W hSw
              (try dsimp only at hSw)
              go_simp
              first | done | (with_reducible rfl)
            try simp only [Act.put, List.setIfInBounds_toArray, List.set_cons_zero, List.set_cons_succ]
            refine wpAnyH_ready (rs := [37]) (by kernel_rfl) (by simp) ?_
            refine hStep (i := 37) rfl (fun K hK => ?_) AllReadyH.nil
            go_simp; go_at_call 13; refine (Kb.out _ BB6).mono ?_; rintro e v7 ⟨rfl, rfl⟩; have BB7 := BB6; try go_wp2_with fail
            refine hK.out _ _ ?_ (fun hS7 => ?_)
            · (try dsimp only); exact KP.out _ BB7
            clear hK K
            try simp only [Act.put, List.setIfInBounds_toArray, List.set_cons_zero, List.set_cons_succ]
            refine hTake (i := 38) (v := ?v38_67) rfl (by kernel_rfl) (by kernel_rfl) (by kernel_rfl) (fun _ _ _ h => h) (Or.inl ⟨by rfl, ?hy38_67⟩) hS7 ?rest38_67
            case hy38_67 =>
              intro W hSw
              (try dsimp only at hSw)
              go_simp
              first | done | (with_reducible rfl)
            try simp only [Act.put, List.setIfInBounds_toArray, List.set_cons_zero, List.set_cons_succ]
            refine hTake (i := 39) (v := ?v39_68) rfl (by kernel_rfl) (by kernel_rfl) (by kernel_rfl) (fun _ _ _ h => h) (Or.inl ⟨by rfl, ?hy39_68⟩) hS7 ?rest39_68
            case hy39_68 =>
              intro W hSw
              (try dsimp only at hSw)
              go_simp
              first | done | (with_reducible rfl)
            try simp only [Act.put, List.setIfInBounds_toArray, List.set_cons_zero, List.set_cons_succ]
            refine hTake (i := 40) (v := ?v40_69) rfl (by kernel_rfl) (by kernel_rfl) (by kernel_rfl) (fun _ _ _ h => h) (Or.inl ⟨by rfl, ?hy40_69⟩) hS7 ?rest40_69
            case hy40_69 =>
              intro W hSw
              (try dsimp only at hSw)
              go_simp
              first | done | (with_reducible rfl)
            try simp only [Act.put, List.setIfInBounds_toArray, List.set_cons_zero, List.set_cons_succ]
            refine wpAnyH_done (by kernel_rfl) ?_ _
            have HTn := Lib.hid (HT8.out.below BB7)
            have HBn := Lib.hid (Below.then HB8.out BB7)
            have HOn := Lib.hid (HO8.out.below BB7)
            clear BB0 BB1 BB2 BB3 BB4 BB5 BB6 BB7 KP Kt Ku Ks1 Ks2 Kq Kd Kb HT8 HB8 HO8
            go_wp2
            go_roundw
            case rel => exact ⟨i + 1, by omega, by go_num, HTn, HOn, HBn⟩
            case measure => simp [intOf]; omega
        · as_aux_lemma =>
          obtain rfl : t = i := by omega
          have y0 := HT.out.1.1
          have y1 := HT.out.1.2
          clear HO
          go_wp2_with fail
          refine (cPackT HP.out HT.out.2).mono ?_
          rintro e w9 ⟨C, cC, q, rfl, hqf, hq0, hb9⟩
          have HT9 := Lib.hid (HT.out.below hb9)
          have HB9 := Lib.hid (Below.then HB.out hb9)
          obtain ⟨zb, hz1, hz2⟩ : ∃ zb : Bool, ((q : Int) == 0) = zb ∧ ((t : Int) == 0) = zb := by
            rw [← HTT.out] at hq0
            by_cases h : t = 0
            · exact ⟨true, by simp [hq0.2 h], by simp [h]⟩
            · exact ⟨false, by simp; exact fun e => h (hq0.1 e), by simp [h]⟩
          have e1 : IntKind.i64.wrap (3 * (t : Int)) = 3 * (t : Int) := IntWalk.i64_in _ (by omega)
          have e2 : wrap64 (3 * (t : Int)) = 3 * (t : Int) := IntWalk.wrap64_in _ (by omega)
          obtain ⟨fw, hfw⟩ : ∃ fw, fw = fewN (bt xs) n := ⟨_, rfl⟩
          rw [← hfw] at hqf
          have HFW := Lib.hid hfw
          have dq : decide ((fw : Int) < (q : Int)) = false := by rw [decide_eq_false_iff_not]; omega
          have dq2 : decide (fw < q) = false := by rw [decide_eq_false_iff_not]; omega
          clear hb9 hq0 hfw y0 y1 HT HB
          have y0 := HT9.out.1.1
          have y1 := HT9.out.1.2
          go_wp2_with fail
          refine (cFew HP.out HT9.out.2).mono ?_
          rintro e w10 ⟨rfl, hb10⟩
          rw [← HFW.out]
          have HB10 := Lib.hid (Below.then HB9.out hb10)
          clear hb10 HT9 HB9 y0 y1
          go_wp2_with fail
          refine (makeTwins_any w10 (.slice A0 k0 c0) 30 30 rfl (by omega) (KN.out _ HB10.out)).mono ?_
          rintro e w11 ⟨m, A, c, xa, B, d, xb, rfl, hm5, hpa, hpb, hre, hra, hrb, hb11⟩
          have HB11 := Lib.hid (Below.then HB10.out hb11)
          have HPA := Lib.hid hpa
          have HPB := Lib.hid hpb
          have HRE := Lib.hid hre
          have HRA := Lib.hid hra
          have HRB := Lib.hid hrb
          clear hb11 hpa hpb hre hra hrb HB10 hz1 hz2 e1 e2 dq dq2 HAT HCT HTT hqf HFW htl hlT hcT
          have hm1 : 1 ≤ m := by have := HPA.out.1; omega
          obtain ⟨ba, hba⟩ : ∃ ba, ba = w11.heap.size := ⟨_, rfl⟩
          have b12 := (below_alloc1 w11 (.cells #[.int .i64 m, .slice A m c] 25)).alloc (by simp) (.cells #[.int .i64 m, .slice B m d] 25)
          have tA : TvB ((w11.alloc (.cells #[.int .i64 m, .slice A m c] 25)).alloc (.cells #[.int .i64 m, .slice B m d] 25)) ba m A c xa := by rw [hba]; exact (TvB.new HRA.out _).below (below_alloc1 _ _)
          have tB : TvB ((w11.alloc (.cells #[.int .i64 m, .slice A m c] 25)).alloc (.cells #[.int .i64 m, .slice B m d] 25)) (ba + 1) m B d xb := by
            have := TvB.new (HRB.out.below (below_alloc1 w11 (.cells #[.int .i64 m, .slice A m c] 25))) 25
            rw [World.size_alloc] at this
            rw [hba]; exact this
          have y0 := tA.1.1
          have y1 := tA.1.2
          have x0 := tB.1.1
          have x1 := tB.1.2
          have HSC : Hid (scL xa m = scL xb m) := Lib.hid (tRe_scores HPA.out HRE.out).symm
          have HREB : Hid (tRe m xb xa) := Lib.hid (HRE.out.symm HPA.out)
          go_wp2_with fail
          rw [← hba]
          generalize (w11.alloc (.cells #[.int .i64 m, .slice A m c] 25)).alloc (.cells #[.int .i64 m, .slice B m d] 25) = w12 at *
          have HTA := Lib.hid tA
          have HTB := Lib.hid tB
          have HB12 := Lib.hid (Below.then HB11.out b12)
          clear b12 tA tB y0 y1 x0 x1 HRA HRB HB11 hba
          refine (cTriWay HPA.out HTA.out.2 HPB.out HTB.out.2 hm5 HSC.out).mono ?_
          rintro e w13 ⟨rv, rows, rfl, hrr, hrl, hrb, hch, hb13⟩
          have HCH := Lib.hid hch
          have HTA13 := Lib.hid (HTA.out.below hb13)
          have HTB13 := Lib.hid (HTB.out.below hb13)
          have HB13 := Lib.hid (Below.then HB12.out hb13)
          have HRR := Lib.hid hrr
          have HRL := Lib.hid hrl
          obtain ⟨R, rc, rfl, hrcm, hrcl, -⟩ := hrr
          unfold maxLen at hrcm
          have hdf := df_walk HPA.out (tCh.wk hch)
          obtain ⟨l, hl⟩ : ∃ l, l = rows.length := ⟨_, rfl⟩
          have HL := Lib.hid hl
          rw [← hl] at HRR HRL hrb hrcl hdf ⊢
          obtain ⟨zc, hzc1, hzc2⟩ : ∃ zc : Bool, ((l : Int) == 0) = zc ∧ decide (xa = xb) = zc := by
            have hz := tD_zero HREB.out
            rw [← HRL.out] at hz
            by_cases h : l = 0
            · exact ⟨true, by simp [h], decide_eq_true (hz.1 h).symm⟩
            · exact ⟨false, by simp [h], decide_eq_false fun e => h (hz.2 e.symm)⟩
          have HZC := Lib.hid hzc2
          have e1 : IntKind.i64.wrap (3 * (l : Int)) = 3 * (l : Int) := IntWalk.i64_in _ (by omega)
          have e2 : wrap64 (3 * (l : Int)) = 3 * (l : Int) := IntWalk.wrap64_in _ (by omega)
          obtain ⟨Q, hQ⟩ : ∃ Q, Q = dfK xa xb m m := ⟨_, rfl⟩
          rw [← hQ] at hdf
          have HQ := Lib.hid hQ
          have dQ : decide (3 * (l : Int) < (Q : Int)) = false := by rw [decide_eq_false_iff_not]; omega
          have y0 := HTA13.out.1.1
          have y1 := HTA13.out.1.2
          have x0 := HTB13.out.1.1
          have x1 := HTB13.out.1.2
          clear hb13 hch hrl hl hzc2 hQ HTA HTB HB12
          go_wp2_with fail
          refine (cTriSteps HPA.out HTA13.out.2 HPB.out HTB13.out.2 hm5 HSC.out).mono ?_
          rintro e w14 ⟨rfl, hb14⟩
          rw [← HRL.out]
          have HTA14 := Lib.hid (HTA13.out.below hb14)
          have HTB14 := Lib.hid (HTB13.out.below hb14)
          have HB14 := Lib.hid (Below.then HB13.out hb14)
          have HRR14 := Lib.hid (HRR.out.below hb14)
          clear hb14 HTA13 HTB13 HB13 HRR y0 y1 x0 x1
          have y0 := HTA14.out.1.1
          have y1 := HTA14.out.1.2
          have x0 := HTB14.out.1.1
          have x1 := HTB14.out.1.2
          go_wp2_with fail
          refine (cTriSteps HPB.out HTB14.out.2 HPA.out HTA14.out.2 hm5 HSC.out.symm).mono ?_
          rintro e w15 ⟨rfl, hb15⟩
          rw [tD_symm HPA.out HRE.out, ← HRL.out]
          have HTA15 := Lib.hid (HTA14.out.below hb15)
          have HTB15 := Lib.hid (HTB14.out.below hb15)
          have HB15 := Lib.hid (Below.then HB14.out hb15)
          have HRR15 := Lib.hid (HRR14.out.below hb15)
          clear hb15 HTA14 HTB14 HB14 HRR14 y0 y1 x0 x1
          have y0 := HTA15.out.1.1
          have y1 := HTA15.out.1.2
          have x0 := HTB15.out.1.1
          have x1 := HTB15.out.1.2
          go_wp2_with fail
          refine (cDiff HPA.out HTA15.out.2 HPB.out HTB15.out.2).mono ?_
          rintro e w16 ⟨rfl, hb16⟩
          rw [← HQ.out]
          have HTA16 := Lib.hid (HTA15.out.below hb16)
          have HTB16 := Lib.hid (HTB15.out.below hb16)
          have HB16 := Lib.hid (Below.then HB15.out hb16)
          have HRR16 := Lib.hid (HRR15.out.below hb16)
          clear hb16 HTA15 HTB15 HB15 HRR15 y0 y1 x0 x1
          have y0 := HTA16.out.1.1
          have y1 := HTA16.out.1.2
          have x0 := HTB16.out.1.1
          have x1 := HTB16.out.1.2
          go_wp2_with fail
          refine (cSameT HPA.out HTA16.out.2 HPB.out HTB16.out.2).mono ?_
          rintro e w17 ⟨rfl, hb17⟩
          rw [HZC.out]
          have HTA17 := Lib.hid (HTA16.out.below hb17)
          have HTB17 := Lib.hid (HTB16.out.below hb17)
          have HB17 := Lib.hid (Below.then HB16.out hb17)
          have HRR17 := Lib.hid (HRR16.out.below hb17)
          clear hb17 HTA16 HTB16 HB16 HRR16 y0 y1 x0 x1
          have y0 := HTA17.out.1.1
          have y1 := HTA17.out.1.2
          have hAb : ∀ a, A = some a → a.block ≠ w17.heap.size := fun a ha => by
            obtain ⟨A', c', e, -, -, hx⟩ := HTA17.out.2
            injection e with e _ _
            obtain ⟨b, off, e2, hlt, -⟩ := hx (by rw [tour_len HPA.out]; omega)
            rw [← e, ha] at e2
            injection e2 with e2
            subst e2
            simp only
            omega
          have b18 := below_alloc1 w17 (.cells #[.int .i64 m, .slice A m c] 25)
          have HX18 := Lib.hid (BoxF.new w17 m (.slice A m c) 25)
          have HR18 := Lib.hid (HTA17.out.2.below b18)
          have HAb := Lib.hid hAb
          have HB18 := Lib.hid b18
          clear hAb b18
          go_wp2
          generalize w17.alloc (.cells #[.int .i64 m, .slice A m c] 25) = w18 at *
          obtain ⟨bn, hbn⟩ : ∃ bn, bn = w17.heap.size := ⟨_, rfl⟩
          rw [← hbn] at HX18 HAb HB18 ⊢
          have HBN := Lib.hid hbn
          clear hbn y0 y1
          go_loopw [174] (fun t174 wr => ∃ (i : Nat) (cx : List Int) (Ac : Option Addr) (cc : Nat), i ≤ l ∧ t174 = .int .i64 i ∧ Hid (tourP m cx) ∧ Hid (tCh m cx (rows.drop i) xb) ∧ Hid (BoxF wr bn m (.slice Ac m cc)) ∧ Hid (Rd wr (.slice Ac m cc) cx) ∧ Hid (∀ a, Ac = some a → a.block ≠ bn) ∧ Hid (Below bn w17 wr)) (fun t174 _ => l - (intOf t174).toNat)
          case atStart => exact ⟨0, xa, A, c, by omega, rfl, HPA, HCH, HX18, HR18, HAb, HB18⟩
          case round =>
            obtain ⟨wl, rfl⟩ : ∃ x, x = wr := ⟨_, rfl⟩
            obtain ⟨i, cx, Ac, cc, hi, rfl, HCP, HCC, HXB, HXR, HXA, HBL⟩ := hrel
            clear HX18 HR18 HB18 HAb
            have HBS : Hid (Below w17.heap.size w17 wl) := Lib.hid (by rw [← HBN.out]; exact HBL.out)
            by_cases hlt : i < l
            · as_aux_lemma =>
              have hil : i < rows.length := by rw [← HL.out]; exact hlt
              have hcc := HCC.out
              rw [List.drop_eq_getElem_cons hil] at hcc
              obtain ⟨a, b, f, er, htg, hch2⟩ := hcc
              have HTG := Lib.hid htg
              have HCH2 := Lib.hid hch2
              obtain ⟨R', rc', e', -, -, hx⟩ := HRR17.out.below HBS.out
              injection e' with e1' e2' e3'
              clear e2'
              subst e1' e3'
              obtain ⟨gr, rfl, hgr, hrow⟩ := hx (by omega)
              obtain ⟨u, zu, hru⟩ := hrow i hil
              rw [List.getD_eq_getElem?_getD, List.getElem?_eq_getElem hil] at hru
              simp only [Option.getD_some] at hru
              rw [er] at hru
              have HRU := Lib.hid hru
              have y0 := HXB.out.1.1
              have y1 := HXB.out.1.2
              obtain ⟨n1, n2, n3⟩ := tg_ne HCP.out htg
              have hzt := rv3_tour HCP.out htg.1 htg.2.1 htg.2.2.1 n1 n2 n3
              have HZT := Lib.hid hzt
              clear hx hrow hru er htg hch2 hzt
              go_wp2_with fail
              refine (cRevTri HCP.out HXR.out HTG.out HRU.out).mono ?_
              rintro e w20 ⟨Z, cz, rfl, ho20, hb20⟩
              have hzb := own_block ho20
              have bb := below_alloc1 w20 (.cells #[.int .i64 m, .slice Z m cz] 25)
              have HT21 := Lib.hid (TBox.new w20 m (.slice Z m cz) 25)
              have HX21 := Lib.hid ((HXB.out.below hb20).below bb)
              have hgb : bn < wl.heap.size := HXB.out.gt
              have HZR := Lib.hid (ho20.rd.below bb)
              have HZB : Hid (∀ a, Z = some a → a.block ≠ bn) := Lib.hid fun a ha => by have := hzb a ha; omega
              have HB21 := Lib.hid (HBL.out.trans ((Below.then hb20 bb).mono (by omega)))
              have z0 := HT21.out.1
              have z1 := HT21.out.2
              have v0 := HX21.out.1.1
              have v1 := HX21.out.1.2
              have f0 := HX21.out.2 0
              have f1 := HX21.out.2 1
              have hXn : bn < w20.heap.size := Nat.lt_of_lt_of_le hgb hb20.size
              have g1 := setCell_grown (w20.alloc (.cells #[.int .i64 m, .slice Z m cz] 25)) ⟨bn, 0, none⟩ (.int .i64 m)
              have g2 := setCell_grown ((w20.alloc (.cells #[.int .i64 m, .slice Z m cz] 25)).setCell ⟨bn, 0, none⟩ (.int .i64 m)) ⟨bn, 1, none⟩ (.slice Z m cz)
              have g12 : (w20.alloc (.cells #[.int .i64 m, .slice Z m cz] 25)).grownBy (((w20.alloc (.cells #[.int .i64 m, .slice Z m cz] 25)).setCell ⟨bn, 0, none⟩ (.int .i64 m)).setCell ⟨bn, 1, none⟩ (.slice Z m cz)) (some bn) := g1.trans g2
              have HX22 := Lib.hid (HX21.out.set01 m (.slice Z m cz))
              have HZR22 := Lib.hid (HZR.out.grown g12 (fun a k c e => by injection e with e _ _; have := HZB.out a e; simp; omega))
              have HB22 := Lib.hid ((HB21.out.setCell (p := ⟨bn, 0, none⟩) (Nat.le_refl _) (.int .i64 m)).setCell (p := ⟨bn, 1, none⟩) (Nat.le_refl _) (.slice Z m cz))
              clear g1 g2 g12 ho20 hb20 hzb bb y0 y1 HBS hXn hgb
              go_upto_region 33 with fail
              generalize w20.alloc (.cells #[.int .i64 m, .slice Z m cz] 25) = w21 at *
              go_wp2
              go_roundw
              case rel => exact ⟨i + 1, rv3 cx a b f, Z, cz, by omega, by go_num, HZT, HCH2, HX22, HZR22, HZB, HB22⟩
              case measure => simp [intOf]; omega
            · as_aux_lemma =>
              obtain rfl : l = i := by omega
              have hcx : cx = xb := by
                have := HCC.out
                rw [List.drop_eq_nil_of_le (by rw [← HL.out]; exact Nat.le_refl _)] at this
                exact this
              have HTA18 := Lib.hid (HTA17.out.below HBS.out)
              have HTB18 := Lib.hid (HTB17.out.below HBS.out)
              have HB18 := Lib.hid (Below.then HB17.out HBS.out)
              have HN18 : Hid (TvB wl bn m Ac cc xb) := Lib.hid ⟨HXB.out.1, by rw [← hcx]; exact HXR.out⟩
              have y0 := HTA18.out.1.1
              have y1 := HTA18.out.1.2
              clear HTA17 HTB17 HB17 HBS HBL HXB HXR HXA HCC HCP hcx
              go_wp2_with fail
              refine (scores_any m _ xa wl HTA18.out.2 HPA.out).mono ?_
              rintro e w19 ⟨SA, sc, rfl, ho19, hb19⟩
              have HSR := Lib.hid ho19.rd
              have HTA19 := Lib.hid (HTA18.out.below hb19)
              have HTB19 := Lib.hid (HTB18.out.below hb19)
              have HN19 := Lib.hid (HN18.out.below hb19)
              have HB19 := Lib.hid (Below.then HB18.out hb19)
              clear ho19 hb19 HTA18 HTB18 HN18 HB18 y0 y1
              obtain ⟨hrp, hrr, -⟩ := rz_law HPA.out hm5
              have HSE : Hid (scL xa m = scL (nI (rzW (scL xa m) m)) m) := Lib.hid (tRe_scores HPA.out hrr).symm
              have HRP := Lib.hid hrp
              have hrlen := tour_len hrp
              clear hrp hrr
              go_wp2_with fail
              refine (cRealize HPA.out hm5 HSR.out).mono ?_
              rintro e w20 ⟨RY, ry, rfl, ho20, hb20⟩
              obtain ⟨zz, hzz⟩ : ∃ zz, zz = nI (rzW (scL xa m) m) := ⟨_, rfl⟩
              rw [← hzz] at HSE HRP ho20
              have b21 := below_alloc1 w20 (.cells #[.int .i64 m, .slice RY m ry] 25)
              have b2021 := Below.then hb20 b21
              obtain ⟨br, hbr⟩ : ∃ br, br = w20.heap.size := ⟨_, rfl⟩
              have HTR21 : Hid (TvB (w20.alloc (.cells #[.int .i64 m, .slice RY m ry] 25)) br m RY ry zz) := Lib.hid (by rw [hbr]; exact TvB.new ho20.rd _)
              have HTA21 := Lib.hid (HTA19.out.below b2021)
              have HTB21 := Lib.hid (HTB19.out.below b2021)
              have HN21 := Lib.hid (HN19.out.below b2021)
              have HB21 := Lib.hid (Below.then HB19.out b2021)
              have y0 := HN21.out.1.1
              have y1 := HN21.out.1.2
              have x0 := HTB21.out.1.1
              have x1 := HTB21.out.1.2
              clear ho20 hb20 b21 b2021 HTA19 HTB19 HN19 HB19 hzz HSR hrlen
              go_wp2_with fail
              rw [← hbr]
              generalize w20.alloc (.cells #[.int .i64 m, .slice RY m ry] 25) = w21 at *
              clear hbr
              refine (cSameT HPB.out HN21.out.2 HPB.out HTB21.out.2).mono ?_
              rintro e w22 ⟨rfl, hb22⟩
              rw [decide_eq_true (rfl : xb = xb)]
              have HTA22 := Lib.hid (HTA21.out.below hb22)
              have HTR22 := Lib.hid (HTR21.out.below hb22)
              have HB22 := Lib.hid (Below.then HB21.out hb22)
              clear hb22 HTA21 HTB21 HN21 HTR21 HB21 y0 y1 x0 x1
              have y0 := HTA22.out.1.1
              have y1 := HTA22.out.1.2
              have x0 := HTR22.out.1.1
              have x1 := HTR22.out.1.2
              go_wp2_with fail
              refine (cTriSteps HPA.out HTA22.out.2 HRP.out HTR22.out.2 hm5 HSE.out).mono ?_
              rintro e w23 ⟨rfl, hb23⟩
              have HB23 := Lib.hid (Below.then HB22.out hb23)
              generalize tD m zz xa = dd at *
              have d0 : decide ((0 : Int) ≤ (dd : Int)) = true := by rw [decide_eq_true_eq]; omega
              clear hb23 y0 y1 x0 x1
              go_wp2
              go_ret
              exact ⟨rfl, HB23.out⟩
end Go.Proofs.YthoodjjjklbggaaGreatDoor

