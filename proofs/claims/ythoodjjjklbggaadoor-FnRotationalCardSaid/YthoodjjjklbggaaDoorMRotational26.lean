/- Texts put together: LFnRotational. -/
import Derived.Test.YthoodjjjklbggaaDoorMRotational25
import Derived.Test.YthoodjjjklbggaaDoorMRotational04
import Derived.Test.YthoodjjjklbggaaDoorMRotational22
import Derived.Test.YthoodjjjklbggaaDoorMRotational21
import Derived.Deep.RegionHeld3
import Derived.Deep.DeepCutAuto
namespace Go.Proofs.YthoodjjjklbggaaDoor
open Go.RowKit Go.Sort
set_option maxRecDepth 100000
/-- a tour in a box -/
def RuB (W : World) (b n : Nat) (Y : Option Addr) (c : Nat) (xs : List Int) : Prop := TBox W b n (.slice Y n c) ∧ Rd W (.slice Y n c) xs
theorem RuB.below {W W' : World} {b n : Nat} {Y : Option Addr} {c : Nat} {xs : List Int} (h : RuB W b n Y c xs) (hb : Below W.heap.size W W') : RuB W' b n Y c xs := ⟨h.1.below hb, h.2.below hb⟩
theorem RuB.new {W : World} {n : Nat} {Y : Option Addr} {c : Nat} {xs : List Int} (h : Rd W (.slice Y n c) xs) (T : TypeId) : RuB (W.alloc (.cells #[.int .i64 n, .slice Y n c] T)) W.heap.size n Y c xs :=
  ⟨TBox.new W n (.slice Y n c) T, h.below (below_alloc1 W _)⟩
def flR (xs : List Int) (b : Nat) : List Int := ((List.range b).filter (bt xs 0)).map fun (b : Nat) => (b : Int)
theorem flR_yes {xs : List Int} {b : Nat} (h : bt xs 0 b = true) : flR xs (b + 1) = flR xs b ++ [(b : Int)] := by unfold flR; rw [List.range_succ, List.filter_append, List.map_append]; simp [h]
theorem flR_no {xs : List Int} {b : Nat} (h : bt xs 0 b = false) : flR xs (b + 1) = flR xs b := by unfold flR; rw [List.range_succ, List.filter_append, List.map_append]; simp [h]
theorem flR_len (xs : List Int) (b : Nat) : (flR xs b).length ≤ b := by unfold flR; rw [List.length_map]; exact Nat.le_trans (List.length_filter_le _ _) (by simp)
theorem bt_irrR {xs : List Int} {n : Nat} (hp : tourP n xs) (a : Nat) : bt xs a a = false := by
  by_cases ha : a < xs.length
  · exact (tour_bits hp).2.1 a ha
  · unfold bt winsN
    rw [List.getD_eq_getElem?_getD, List.getElem?_eq_none (by omega)]
    simp
theorem flR_one {n : Nat} {xs : List Int} (hp : tourP n xs) : flR xs 1 = [] := by unfold flR; simp [bt_irrR hp]
set_option maxHeartbeats 8000000 in
theorem lawFnRotational (v0 : Value) (w : World) (h0 : BytesV w w.heap.size v0) :
    Calls Tryd.prog 3 #[v0] w fun e w' => e = .returned (.bool true) ∧ Below w.heap.size w w' := by
  have HV := Lib.hid h0
  obtain ⟨A0, k0, c0, rfl, hk0, hc0, -⟩ := h0
  unfold maxLen at hc0
  by_cases hn0 : k0 ≤ 1048576
  case neg =>
    have hd0 : decide ((1048576 : Int) < (k0 : Int)) = true := by simp; omega
    go_enter Tryd.func3, Tryd.ntmps3
    go_wp2
    go_ret
    exact ⟨rfl, Below.refl _ _⟩
  have hd0 : decide ((1048576 : Int) < (k0 : Int)) = false := by simp; omega
  have KN : Hid (∀ W, Below w.heap.size w W → BytesV W W.heap.size (.slice A0 k0 c0)) := Lib.hid fun W h => (HV.out.keep (fun p hp => h.cell hp)).mono h.size
  go_enter Tryd.func3, Tryd.ntmps3
  go_wp2_with fail
  refine (makeTurning_any w (.slice A0 k0 c0) 0 0 rfl (by omega) HV.out).mono ?_
  rintro e w1 ⟨n, L, sl, rfl, hK, ho, hb⟩
  have HK := Lib.hid hK
  have hn7 : n ≤ 7 := by have := conn_n hK; omega
  have hn1 : 1 ≤ n := by have := conn_n hK; omega
  obtain ⟨xs, hxs⟩ : ∃ xs, xs = rotT L n := ⟨_, rfl⟩
  have HX := Lib.hid hxs
  have hp := rot_tour hK
  rw [← hxs] at ho hp
  have HP := Lib.hid hp
  obtain ⟨Y, cy, rfl, -⟩ := ho.form
  rw [tour_len hp] at *
  have bb := below_alloc1 w1 (.cells #[.int .i64 n, .slice Y n cy] 25)
  obtain ⟨bx, hbx⟩ : ∃ bx, bx = w1.heap.size := ⟨_, rfl⟩
  have HB2 := Lib.hid (Below.then hb bb)
  have HT2 : Hid (RuB (w1.alloc (.cells #[.int .i64 n, .slice Y n cy] 25)) bx n Y cy xs) := Lib.hid (by rw [hbx]; exact RuB.new ho.rd _)
  clear ho hb hp bb hK hxs
  go_wp2_with fail
  rw [← hbx]
  generalize w1.alloc (.cells #[.int .i64 n, .slice Y n cy] 25) = w2 at *
  clear hbx
  have y0T := HT2.out.1.1
  have y1T := HT2.out.1.2
  go_wp2_with fail
  refine (cRSafe HK.out (by have := HT2.out.2; rwa [HX.out] at this)).mono ?_
  rintro e w3 ⟨VA, vc, rfl, ho, hb⟩
  clear y0T y1T
  have HW3 := Lib.hid ho.rd
  clear ho
  have HB3 := Lib.hid (Below.then HB2.out hb)
  have HT3 := Lib.hid (HT2.out.below hb)
  clear hb HB2 HT2
  have y0T := HT3.out.1.1
  have y1T := HT3.out.1.2
  go_wp2_with fail
  refine (cRotal HK.out (by have := HT3.out.2; rwa [HX.out] at this)).mono ?_
  rintro e w4 ⟨rfl, hb⟩
  clear y0T y1T
  have HB4 := Lib.hid (Below.then HB3.out hb)
  have HT4 := Lib.hid (HT3.out.below hb)
  have HW4 := Lib.hid (HW3.out.below hb)
  clear hb HB3 HT3 HW3
  have y0T := HT4.out.1.1
  have y1T := HT4.out.1.2
  go_wp2_with fail
  refine (cRReg HK.out (by have := HT4.out.2; rwa [HX.out] at this)).mono ?_
  rintro e w5 ⟨rfl, hb⟩
  clear y0T y1T
  have HB5 := Lib.hid (Below.then HB4.out hb)
  have HT5 := Lib.hid (HT4.out.below hb)
  have HW5 := Lib.hid (HW4.out.below hb)
  clear hb HB4 HT4 HW4
  go_wp2_with fail
  refine (cRSum (by omega) HW5.out).mono ?_
  rintro e _ ⟨rfl, rfl⟩
  clear HW5
  have y0T := HT5.out.1.1
  have y1T := HT5.out.1.2
  go_wp2_with fail
  refine (cRTri HK.out (by have := HT5.out.2; rwa [HX.out] at this)).mono ?_
  rintro e w6 ⟨rfl, hb⟩
  clear y0T y1T
  have HB6 := Lib.hid (Below.then HB5.out hb)
  have HT6 := Lib.hid (HT5.out.below hb)
  clear hb HB5 HT5
  go_wp2_with fail
  refine (cMost n hn1 (by omega) _).mono ?_
  rintro e _ ⟨rfl, rfl⟩
  generalize mtK n n = M at *
  go_wp2_with fail
  obtain ⟨B, hB⟩ : ∃ B, B = w6.heap.size := ⟨_, rfl⟩
  have HL0 : Hid (Own (w6.alloc (.cells #[] 3)) B (.slice (some ⟨B, 0, none⟩) 0 0) (flR xs 1)) := Lib.hid (by rw [flR_one HP.out, hB]; exact Own.lit w6 _ [] (Nat.le_refl _) (by simp))
  have HW0 : Hid (Below B w6 (w6.alloc (.cells #[] 3))) := Lib.hid (by rw [hB]; exact below_alloc1 _ _)
  try rw [← hB]
  have HBB := Lib.hid hB
  clear hB
  go_loopw [7, 8] (fun l t wr => ∃ b : Nat, 1 ≤ b ∧ b ≤ n ∧ t = .int .i64 b ∧ Hid (Own wr B l (flR xs b)) ∧ Hid (Below B w6 wr)) (fun _ t _ => n - (intOf t).toNat)
  case atStart => exact ⟨1, by omega, hn1, rfl, HL0, HW0⟩
  case round =>
    obtain ⟨wo, rfl⟩ : ∃ x, x = wr := ⟨_, rfl⟩
    obtain ⟨b, hb1, hbn, rfl, HO, HW⟩ := hrel
    clear HL0 HW0
    have hBk : Below w6.heap.size w6 wo := by have := HW.out; rwa [HBB.out] at this
    have HBk := Lib.hid hBk
    have HT := Lib.hid (HT6.out.below hBk)
    have HBo := Lib.hid (Below.then HB6.out hBk)
    clear hBk
    by_cases hlt : b < n
    · have y0 := HT.out.1.1
      have y1 := HT.out.1.2
      go_wp2_with fail
      refine (cBeat HP.out HT.out.2 0 b (by omega) hlt).mono ?_
      rintro e wp ⟨rfl, hb⟩
      have HOp := Lib.hid (HO.out.below hb)
      have HWp := Lib.hid (show Below B w6 wp by rw [HBB.out]; exact Below.then HBk.out hb)
      clear hb y0 y1 HT HO HW HBo
      rcases q : bt xs 0 b with _ | _
      · have HF := Lib.hid (flR_no q)
        go_wp2
        go_roundw
        case rel => exact ⟨b + 1, by omega, by omega, by go_num, by rw [HF.out]; exact HOp, HWp⟩
        case measure => simp [intOf]; omega
      · have HF := Lib.hid (flR_yes q)
        have ho := HOp.out
        have hll : (flR xs b).length ≤ 1099511627776 := by have := flR_len xs b; omega
        have hsz : B ≤ wp.heap.size := by rw [HBB.out]; exact HWp.out.size
        generalize flR xs b = X at *
        go_wp2_with (at_builtin; refine wp_append1 wp rfl (.tmp 70) (.tmp 72) rfl B _ X (b : Int) rfl ho (by simp [Act.eval]) hll hsz ?_; intro v' w7 hown1 hg1; have HO7 := Lib.hid hown1; have HB7 := Lib.hid (below_append HWp.out hg1 ho (Nat.le_refl _) hsz); clear hown1 hg1)
        go_roundw
        case rel => exact ⟨b + 1, by omega, by omega, by go_num, by rw [HF.out]; exact HO7, HB7⟩
        case measure => simp [intOf]; omega
    · obtain rfl : n = b := by omega
      obtain ⟨w20, rfl⟩ : ∃ x, x = wo := ⟨_, rfl⟩
      have HT20 := HT
      have HB20 := HBo
      have HO20 := HO.out
      rw [show flR xs n = L by rw [HX.out]; exact rot_first HK.out] at HO20
      have HL20 := Lib.hid HO20.rd
      clear HT HBo HO HO20 HW HBB HT6 HB6
      go_wp2_with fail
      refine (cRTurn HK.out HL20.out).mono ?_
      rintro e w21 ⟨A9, c9, rfl, ho, hb⟩
      rw [← HX.out] at ho
      have ho := Lib.hid ho.rd
      have HB21 := Lib.hid (Below.then HB20.out hb)
      have HT21 := Lib.hid (HT20.out.below hb)
      have HL21 := Lib.hid (HL20.out.below hb)
      clear hb HB20 HT20 HL20
      have bb := below_alloc1 w21 (.cells #[.int .i64 n, .slice A9 n c9] 25)
      obtain ⟨b9, hb9⟩ : ∃ b, b = w21.heap.size := ⟨_, rfl⟩
      have H922 : Hid (RuB (w21.alloc (.cells #[.int .i64 n, .slice A9 n c9] 25)) b9 n A9 c9 xs) := Lib.hid (by rw [hb9]; exact RuB.new ho.out _)
      have HB22 := Lib.hid (Below.then HB21.out bb)
      have HT22 := Lib.hid (HT21.out.below bb)
      have HL22 := Lib.hid (HL21.out.below bb)
      clear bb ho HB21 HT21 HL21
      go_wp2_with fail
      rw [← hb9]
      generalize w21.alloc (.cells #[.int .i64 n, .slice A9 n c9] 25) = w22 at *
      clear hb9
      go_wp2_with fail
      refine (cRConn HK.out HL22.out).mono ?_
      rintro e _ ⟨rfl, rfl⟩
      have y09 := H922.out.1.1
      have y19 := H922.out.1.2
      have y0T := HT22.out.1.1
      have y1T := HT22.out.1.2
      go_wp2_with fail
      refine (cSameT HP.out H922.out.2 HP.out HT22.out.2).mono ?_
      rintro e w23 ⟨rfl, hb⟩
      clear y09 y19 y0T y1T
      have HB23 := Lib.hid (Below.then HB22.out hb)
      have HT23 := Lib.hid (HT22.out.below hb)
      have HL23 := Lib.hid (HL22.out.below hb)
      have H923 := Lib.hid (H922.out.below hb)
      clear hb HB22 HT22 HL22 H922
      rw [decide_eq_true (rfl : xs = xs)]
      clear H923
      clear HL23
      go_wp2_with fail
      obtain ⟨B, hB⟩ : ∃ B, B = w23.heap.size := ⟨_, rfl⟩
      have HL0 : Hid (Own (w23.alloc (.cells #[] 3)) B (.slice (some ⟨B, 0, none⟩) 0 0) (turnL n 0)) := Lib.hid (by rw [show turnL n 0 = [] from rfl, hB]; exact Own.lit w23 _ [] (Nat.le_refl _) (by simp))
      have HW0 : Hid (Below B w23 (w23.alloc (.cells #[] 3))) := Lib.hid (by rw [hB]; exact below_alloc1 _ _)
      try rw [← hB]
      have HBB := Lib.hid hB
      clear hB
      go_loopw [11, 12] (fun l t wr => ∃ b : Nat, b ≤ n ∧ t = .int .i64 b ∧ Hid (Own wr B l (turnL n b)) ∧ Hid (Below B w23 wr)) (fun _ t _ => n - (intOf t).toNat)
      case atStart => exact ⟨0, by omega, rfl, HL0, HW0⟩
      case round =>
        obtain ⟨wp, rfl⟩ : ∃ x, x = wr := ⟨_, rfl⟩
        obtain ⟨b, hbn, rfl, HO, HW⟩ := hrel
        clear HL0 HW0
        by_cases hlt : b < n
        · have hr : Int.tmod ((b : Int) + 1) n = ((b : Int) + 1) % n := Int.tmod_eq_emod_of_nonneg (by omega)
          have HMS := Lib.hid (turnL_succ n b)
          have hll : (turnL n b).length ≤ 1099511627776 := by rw [turnL_len]; omega
          have ho := HO.out
          have hsz : B ≤ wp.heap.size := by rw [HBB.out]; exact HW.out.size
          generalize ((b : Int) + 1) % n = r at *
          generalize turnL n b = X at *
          go_wp2_with (at_builtin; refine wp_append1 wp rfl (.tmp 100) (.tmp 105) rfl B _ X r rfl ho (by simp [Act.eval]) hll hsz ?_; intro v' w7 hown1 hg1; have HO7 := Lib.hid hown1; have HB7 := Lib.hid (below_append HW.out hg1 ho (Nat.le_refl _) hsz); clear hown1 hg1)
          go_roundw
          case rel => exact ⟨b + 1, by omega, by go_num, by rw [HMS.out]; exact HO7, HB7⟩
          case measure => simp [intOf]; omega
        · obtain rfl : n = b := by omega
          have hBk : Below w23.heap.size w23 wp := by have := HW.out; rwa [HBB.out] at this
          obtain ⟨w40, rfl⟩ : ∃ x, x = wp := ⟨_, rfl⟩
          have HT40 := Lib.hid (HT23.out.below hBk)
          have HB40 := Lib.hid (Below.then HB23.out hBk)
          have HV40 := Lib.hid HO.out.rd
          clear HO HW HBB HT23 HB23 hBk
          go_wp2_with fail
          refine (makeTour_any w40 (.slice A0 k0 c0) 20 5 20 5 rfl rfl (by omega) (by omega) (by omega) (KN.out _ HB40.out)).mono ?_
          rintro e w41 ⟨m, su, ys, rfl, hm5, hpy, ho, hb⟩
          have HPY := Lib.hid hpy
          have hm1 : 1 ≤ m := by have := hpy.1; omega
          obtain ⟨UA, uc, rfl, -⟩ := ho.form
          rw [tour_len hpy] at ho ⊢
          clear hpy
          have ho := Lib.hid ho.rd
          have HB41 := Lib.hid (Below.then HB40.out hb)
          have HT41 := Lib.hid (HT40.out.below hb)
          have HV41 := Lib.hid (HV40.out.below hb)
          clear hb HB40 HT40 HV40
          have bb := below_alloc1 w41 (.cells #[.int .i64 m, .slice UA m uc] 25)
          obtain ⟨bU, hbU⟩ : ∃ b, b = w41.heap.size := ⟨_, rfl⟩
          have HU42 : Hid (RuB (w41.alloc (.cells #[.int .i64 m, .slice UA m uc] 25)) bU m UA uc ys) := Lib.hid (by rw [hbU]; exact RuB.new ho.out _)
          have HB42 := Lib.hid (Below.then HB41.out bb)
          have HT42 := Lib.hid (HT41.out.below bb)
          have HV42 := Lib.hid (HV41.out.below bb)
          clear bb ho HB41 HT41 HV41
          go_wp2_with fail
          rw [← hbU]
          generalize w41.alloc (.cells #[.int .i64 m, .slice UA m uc] 25) = w42 at *
          clear hbU
          have y0U := HU42.out.1.1
          have y1U := HU42.out.1.2
          go_wp2_with fail
          refine (makeOrder_any w42 (.slice A0 k0 c0) 40 40 m rfl (by omega) hm1 (by omega) (KN.out _ HB42.out)).mono ?_
          rintro e w43 ⟨so, ns, rfl, hq, ho, hb⟩
          clear y0U y1U
          have HQ := Lib.hid hq
          obtain ⟨OA, oc, rfl, -⟩ := ho.form
          rw [hq.1] at ho ⊢
          clear hq
          have HN43 := Lib.hid ho.rd
          clear ho
          have HB43 := Lib.hid (Below.then HB42.out hb)
          have HT43 := Lib.hid (HT42.out.below hb)
          have HV43 := Lib.hid (HV42.out.below hb)
          have HU43 := Lib.hid (HU42.out.below hb)
          clear hb HB42 HT42 HV42 HU42
          have y0U := HU43.out.1.1
          have y1U := HU43.out.1.2
          go_wp2_with fail
          refine (cRename HPY.out HU43.out.2 HN43.out HQ.out).mono ?_
          rintro e w44 ⟨RA, rcc, rfl, ho, hb⟩
          clear y0U y1U
          have ho := Lib.hid ho.rd
          have HB44 := Lib.hid (Below.then HB43.out hb)
          have HT44 := Lib.hid (HT43.out.below hb)
          have HV44 := Lib.hid (HV43.out.below hb)
          have HU44 := Lib.hid (HU43.out.below hb)
          have HN44 := Lib.hid (HN43.out.below hb)
          clear hb HB43 HT43 HV43 HU43 HN43
          clear HN44
          have HPR := Lib.hid (rn_tour HPY.out (by rw [tour_len HPY.out]; exact HQ.out))
          have bb := below_alloc1 w44 (.cells #[.int .i64 m, .slice RA m rcc] 25)
          obtain ⟨bR, hbR⟩ : ∃ b, b = w44.heap.size := ⟨_, rfl⟩
          have HR45 : Hid (RuB (w44.alloc (.cells #[.int .i64 m, .slice RA m rcc] 25)) bR m RA rcc (rnL ys ns)) := Lib.hid (by rw [hbR]; exact RuB.new ho.out _)
          have HB45 := Lib.hid (Below.then HB44.out bb)
          have HT45 := Lib.hid (HT44.out.below bb)
          have HV45 := Lib.hid (HV44.out.below bb)
          have HU45 := Lib.hid (HU44.out.below bb)
          clear bb ho HB44 HT44 HV44 HU44
          have y0U := HU45.out.1.1
          have y1U := HU45.out.1.2
          go_wp2_with fail
          rw [← hbR]
          generalize w44.alloc (.cells #[.int .i64 m, .slice RA m rcc] 25) = w45 at *
          clear hbR
          refine (cCnt HPY.out (by omega) HU45.out.2).mono ?_
          rintro e w46 ⟨rfl, hb⟩
          clear y0U y1U
          have HB46 := Lib.hid (Below.then HB45.out hb)
          have HT46 := Lib.hid (HT45.out.below hb)
          have HV46 := Lib.hid (HV45.out.below hb)
          have HU46 := Lib.hid (HU45.out.below hb)
          have HR46 := Lib.hid (HR45.out.below hb)
          clear hb HB45 HT45 HV45 HU45 HR45
          have hodd := sym_odd HPY.out hm5
          have HRN := Lib.hid (sym_rn HPY.out HQ.out)
          generalize cntL ys (ordL m) = K1 at *
          have hk1 : decide ((1 : Int) ≤ (K1 : Int)) = true := by rw [decide_eq_true_eq]; omega
          have hk2 : Int.tmod (K1 : Int) 2 = 1 := by rw [Int.tmod_eq_emod_of_nonneg (by omega)]; omega
          clear hodd
          have y0U := HU46.out.1.1
          have y1U := HU46.out.1.2
          go_wp2_with fail
          refine (cLeastN HPY.out (by omega) HU46.out.2).mono ?_
          rintro e w47 ⟨LA, lc, rfl, ho, hb⟩
          clear y0U y1U
          have ho := Lib.hid ho.rd
          have HB47 := Lib.hid (Below.then HB46.out hb)
          have HT47 := Lib.hid (HT46.out.below hb)
          have HV47 := Lib.hid (HV46.out.below hb)
          have HU47 := Lib.hid (HU46.out.below hb)
          have HR47 := Lib.hid (HR46.out.below hb)
          clear hb HB46 HT46 HV46 HU46 HR46
          have bb := below_alloc1 w47 (.cells #[.int .i64 m, .slice LA m lc] 25)
          obtain ⟨bF, hbF⟩ : ∃ b, b = w47.heap.size := ⟨_, rfl⟩
          have HF48 : Hid (RuB (w47.alloc (.cells #[.int .i64 m, .slice LA m lc] 25)) bF m LA lc (lnL m ys)) := Lib.hid (by rw [hbF]; exact RuB.new ho.out _)
          have HB48 := Lib.hid (Below.then HB47.out bb)
          have HT48 := Lib.hid (HT47.out.below bb)
          have HV48 := Lib.hid (HV47.out.below bb)
          have HU48 := Lib.hid (HU47.out.below bb)
          have HR48 := Lib.hid (HR47.out.below bb)
          clear bb ho HB47 HT47 HV47 HU47 HR47
          have y0R := HR48.out.1.1
          have y1R := HR48.out.1.2
          go_wp2_with fail
          rw [← hbF]
          generalize w47.alloc (.cells #[.int .i64 m, .slice LA m lc] 25) = w48 at *
          clear hbF
          refine (cLeastN HPR.out (by omega) HR48.out.2).mono ?_
          rintro e w49 ⟨LB, ld, rfl, ho, hb⟩
          clear y0R y1R
          rw [ln_rn HPY.out (by omega) HQ.out] at ho
          have ho := Lib.hid ho.rd
          have HB49 := Lib.hid (Below.then HB48.out hb)
          have HT49 := Lib.hid (HT48.out.below hb)
          have HV49 := Lib.hid (HV48.out.below hb)
          have HU49 := Lib.hid (HU48.out.below hb)
          have HR49 := Lib.hid (HR48.out.below hb)
          have HF49 := Lib.hid (HF48.out.below hb)
          clear hb HB48 HT48 HV48 HU48 HR48 HF48
          have bb := below_alloc1 w49 (.cells #[.int .i64 m, .slice LB m ld] 25)
          obtain ⟨bG, hbG⟩ : ∃ b, b = w49.heap.size := ⟨_, rfl⟩
          have HG50 : Hid (RuB (w49.alloc (.cells #[.int .i64 m, .slice LB m ld] 25)) bG m LB ld (lnL m ys)) := Lib.hid (by rw [hbG]; exact RuB.new ho.out _)
          have HB50 := Lib.hid (Below.then HB49.out bb)
          have HT50 := Lib.hid (HT49.out.below bb)
          have HV50 := Lib.hid (HV49.out.below bb)
          have HU50 := Lib.hid (HU49.out.below bb)
          have HR50 := Lib.hid (HR49.out.below bb)
          have HF50 := Lib.hid (HF49.out.below bb)
          clear bb ho HB49 HT49 HV49 HU49 HR49 HF49
          go_wp2_with fail
          rw [← hbG]
          generalize w49.alloc (.cells #[.int .i64 m, .slice LB m ld] 25) = w50 at *
          clear hbG
          have HPL := Lib.hid (ln_tour HPY.out (show m ≤ 6 by omega)).1
          go_wp2_with fail
          refine (cSquare7 _).mono ?_
          rintro e w51 ⟨SA, sc, rfl, ho, hb⟩
          have ho := Lib.hid ho.rd
          have HB51 := Lib.hid (Below.then HB50.out hb)
          have HT51 := Lib.hid (HT50.out.below hb)
          have HV51 := Lib.hid (HV50.out.below hb)
          have HU51 := Lib.hid (HU50.out.below hb)
          have HR51 := Lib.hid (HR50.out.below hb)
          have HF51 := Lib.hid (HF50.out.below hb)
          have HG51 := Lib.hid (HG50.out.below hb)
          clear hb HB50 HT50 HV50 HU50 HR50 HF50 HG50
          have bb := below_alloc1 w51 (.cells #[.int .i64 7, .slice SA 7 sc] 25)
          obtain ⟨bS, hbS⟩ : ∃ b, b = w51.heap.size := ⟨_, rfl⟩
          have HS52 : Hid (RuB (w51.alloc (.cells #[.int .i64 7, .slice SA 7 sc] 25)) bS 7 SA sc (rotT [1, 2, 4] 7)) := Lib.hid (by rw [hbS]; exact RuB.new ho.out _)
          have HB52 := Lib.hid (Below.then HB51.out bb)
          have HT52 := Lib.hid (HT51.out.below bb)
          have HV52 := Lib.hid (HV51.out.below bb)
          have HU52 := Lib.hid (HU51.out.below bb)
          have HR52 := Lib.hid (HR51.out.below bb)
          have HF52 := Lib.hid (HF51.out.below bb)
          have HG52 := Lib.hid (HG51.out.below bb)
          clear bb ho HB51 HT51 HV51 HU51 HR51 HF51 HG51
          go_wp2_with fail
          rw [← hbS]
          generalize w51.alloc (.cells #[.int .i64 7, .slice SA 7 sc] 25) = w52 at *
          clear hbS
          go_wp2_with fail
          have KP : Hid (∀ W, Below w52.heap.size w52 W → (W.cell? ⟨bx, 0, none⟩ = some (.int .i64 n) ∧ W.cell? ⟨bx, 1, none⟩ = some (.slice Y n cy) ∧ W.cell? ⟨bU, 0, none⟩ = some (.int .i64 m) ∧ W.cell? ⟨bU, 1, none⟩ = some (.slice UA m uc) ∧ W.cell? ⟨bR, 0, none⟩ = some (.int .i64 m) ∧ W.cell? ⟨bR, 1, none⟩ = some (.slice RA m rcc) ∧ W.cell? ⟨bF, 0, none⟩ = some (.int .i64 m) ∧ W.cell? ⟨bF, 1, none⟩ = some (.slice LA m lc) ∧ W.cell? ⟨bG, 0, none⟩ = some (.int .i64 m) ∧ W.cell? ⟨bG, 1, none⟩ = some (.slice LB m ld) ∧ W.cell? ⟨bS, 0, none⟩ = some (.int .i64 7) ∧ W.cell? ⟨bS, 1, none⟩ = some (.slice SA 7 sc))) := Lib.hid fun W hW => ⟨(HT52.out.below hW).1.1, (HT52.out.below hW).1.2, (HU52.out.below hW).1.1, (HU52.out.below hW).1.2, (HR52.out.below hW).1.1, (HR52.out.below hW).1.2, (HF52.out.below hW).1.1, (HF52.out.below hW).1.2, (HG52.out.below hW).1.1, (HG52.out.below hW).1.2, (HS52.out.below hW).1.1, (HS52.out.below hW).1.2⟩
          have K1s : Hid (∀ W v, Rd W v (turnL n n) → Below w52.heap.size w52 W → Calls Tryd.prog 21 #[.agg #[.int .i64 n, .slice Y n cy], v] W fun e w' => e = .returned (.bool true) ∧ Below W.heap.size W w') := Lib.hid fun W v hv hW => cRSym HK.out (by have := (HT52.out.below hW).2; rwa [HX.out] at this) hv
          have K2s : Hid (∀ W, Below w52.heap.size w52 W → Calls Tryd.prog 18 #[.agg #[.int .i64 m, .slice RA m rcc]] W fun e w' => e = .returned (.int .i64 K1) ∧ Below W.heap.size W w') := Lib.hid fun W hW => by
            have := cCnt HPR.out (by omega) (HR52.out.below hW).2
            rwa [HRN.out] at this
          have K3s : Hid (∀ W, Below w52.heap.size w52 W → Calls Tryd.prog 22 #[.agg #[.int .i64 m, .slice UA m uc], .agg #[.int .i64 m, .slice RA m rcc]] W fun e w' => e = .returned (.bool true) ∧ Below W.heap.size W w') := Lib.hid fun W hW => by
            exact cLike (like_rn HPY.out (by omega) HQ.out) (HU52.out.below hW).2 (HR52.out.below hW).2
          have K4s : Hid (∀ W, Below w52.heap.size w52 W → Calls Tryd.prog 14 #[.agg #[.int .i64 m, .slice LA m lc], .agg #[.int .i64 m, .slice LB m ld]] W fun e w' => e = .returned (.bool true) ∧ Below W.heap.size W w') := Lib.hid fun W hW => by
            have := cSameT HPL.out (HF52.out.below hW).2 HPL.out (HG52.out.below hW).2
            rwa [decide_eq_true (rfl : lnL m ys = lnL m ys)] at this
          have K5s : Hid (∀ W, Below w52.heap.size w52 W → Calls Tryd.prog 22 #[.agg #[.int .i64 m, .slice LA m lc], .agg #[.int .i64 m, .slice UA m uc]] W fun e w' => e = .returned (.bool true) ∧ Below W.heap.size W w') := Lib.hid fun W hW => by
            exact cLike (like_ln HPY.out (by omega)) (HF52.out.below hW).2 (HU52.out.below hW).2
          have K6s : Hid (∀ W, Below w52.heap.size w52 W → Calls Tryd.prog 23 #[.agg #[.int .i64 m, .slice LA m lc]] W fun e w' => e = .returned (.string ⟨(fmL (lnL m ys) m).toArray⟩) ∧ Below W.heap.size W w') := Lib.hid fun W hW => by
            exact cFormat HPL.out (HF52.out.below hW).2
          have K7s : Hid (∀ W, Below w52.heap.size w52 W → Calls Tryd.prog 23 #[.agg #[.int .i64 m, .slice UA m uc]] W fun e w' => e = .returned (.string ⟨(fmL ys m).toArray⟩) ∧ Below W.heap.size W w') := Lib.hid fun W hW => by
            exact cFormat HPY.out (HU52.out.below hW).2
          have K8s : Hid (∀ W, Below w52.heap.size w52 W → Calls Tryd.prog 6 #[.agg #[.int .i64 7, .slice SA 7 sc]] W fun e w' => e = .returned (.bool true) ∧ Below W.heap.size W w') := Lib.hid fun W hW => by
            exact cRotal (n := 7) conn7_ (HS52.out.below hW).2
          have K9s : Hid (∀ W, Below w52.heap.size w52 W → Calls Tryd.prog 24 #[.int .i64 5] W fun e w' => e = .returned (.int .i64 12) ∧ Below W.heap.size W w') := Lib.hid fun W hW => by
            exact cKinds5 W
          have HLQ := Lib.hid (ln_leq HPY.out (show m ≤ 6 by omega))
          generalize fmL (lnL m ys) m = T1 at *
          generalize fmL ys m = T2 at *
          have hlq := HLQ.out
          have BB0 : Below w52.heap.size w52 w52.drew := (Below.refl _ _).drew
          by_cases h7 : n = 7
          · have hd7 : decide ((6 : Int) < (n : Int)) = true := by rw [decide_eq_true_eq]; omega
            clear h7
            refine wp_region_held_drew (S := fun W => W.cell? ⟨bx, 0, none⟩ = some (.int .i64 n) ∧ W.cell? ⟨bx, 1, none⟩ = some (.slice Y n cy) ∧ W.cell? ⟨bU, 0, none⟩ = some (.int .i64 m) ∧ W.cell? ⟨bU, 1, none⟩ = some (.slice UA m uc) ∧ W.cell? ⟨bR, 0, none⟩ = some (.int .i64 m) ∧ W.cell? ⟨bR, 1, none⟩ = some (.slice RA m rcc) ∧ W.cell? ⟨bF, 0, none⟩ = some (.int .i64 m) ∧ W.cell? ⟨bF, 1, none⟩ = some (.slice LA m lc) ∧ W.cell? ⟨bG, 0, none⟩ = some (.int .i64 m) ∧ W.cell? ⟨bG, 1, none⟩ = some (.slice LB m ld) ∧ W.cell? ⟨bS, 0, none⟩ = some (.int .i64 7) ∧ W.cell? ⟨bS, 1, none⟩ = some (.slice SA 7 sc)) (by kernel_rfl) (KP.out _ BB0) (fun hS0 => ?_)
            refine hTake (i := 0) (v := ?v0_1) rfl (by kernel_rfl) (by kernel_rfl) (by kernel_rfl) (fun _ _ _ h => h) (Or.inl ⟨by rfl, ?hy0_1⟩) hS0 ?rest0_1
            case hy0_1 =>
              intro W hSw
              (try dsimp only at hSw)
              go_simp
              first | done | (with_reducible rfl)
            try simp only [Act.put, List.setIfInBounds_toArray, List.set_cons_zero, List.set_cons_succ]
            refine hTake (i := 1) (v := ?v1_2) rfl (by kernel_rfl) (by kernel_rfl) (by kernel_rfl) (fun _ _ _ h => h) (Or.inl ⟨by rfl, ?hy1_2⟩) hS0 ?rest1_2
            case hy1_2 =>
              intro W hSw
              (try dsimp only at hSw)
              go_simp
              first | done | (with_reducible rfl)
            try simp only [Act.put, List.setIfInBounds_toArray, List.set_cons_zero, List.set_cons_succ]
            refine wpAnyH_ready (rs := [2]) (by kernel_rfl) (by simp) ?_
            refine hStep (i := 2) rfl (fun K hK => ?_) AllReadyH.nil
            go_simp; go_at_call 21; refine (K1s.out _ _ (HV52.out.below BB0) BB0).mono ?_; rintro e v1 ⟨rfl, hb⟩; have BB1 := Below.then BB0 hb; clear hb; try go_wp2_with fail
            refine hK.out _ _ ?_ (fun hS1 => ?_)
            · (try dsimp only); exact KP.out _ BB1
            clear hK K
            try simp only [Act.put, List.setIfInBounds_toArray, List.set_cons_zero, List.set_cons_succ]
            refine hTake (i := 3) (v := ?v3_3) rfl (by kernel_rfl) (by kernel_rfl) (by kernel_rfl) (fun _ _ _ h => h) (Or.inl ⟨by rfl, ?hy3_3⟩) hS1 ?rest3_3
            case hy3_3 =>
              intro W hSw
              (try dsimp only at hSw)
              go_simp
              first | done | (with_reducible rfl)
            try simp only [Act.put, List.setIfInBounds_toArray, List.set_cons_zero, List.set_cons_succ]
            refine hTake (i := 4) (v := ?v4_4) rfl (by kernel_rfl) (by kernel_rfl) (by kernel_rfl) (fun _ _ _ h => h) (Or.inl ⟨by rfl, ?hy4_4⟩) hS1 ?rest4_4
            case hy4_4 =>
              intro W hSw
              (try dsimp only at hSw)
              go_simp
              first | done | (with_reducible rfl)
            try simp only [Act.put, List.setIfInBounds_toArray, List.set_cons_zero, List.set_cons_succ]
            refine hTake (i := 5) (v := ?v5_5) rfl (by kernel_rfl) (by kernel_rfl) (by kernel_rfl) (fun _ _ _ h => h) (Or.inl ⟨by rfl, ?hy5_5⟩) hS1 ?rest5_5
            case hy5_5 =>
              intro W hSw
              (try dsimp only at hSw)
              go_simp
              first | done | (with_reducible rfl)
            try simp only [Act.put, List.setIfInBounds_toArray, List.set_cons_zero, List.set_cons_succ]
            refine hTake (i := 6) (v := ?v6_6) rfl (by kernel_rfl) (by kernel_rfl) (by kernel_rfl) (fun _ _ _ h => h) (Or.inl ⟨by rfl, ?hy6_6⟩) hS1 ?rest6_6
            case hy6_6 =>
              intro W hSw
              (try dsimp only at hSw)
              go_simp
              first | done | (with_reducible rfl)
            try simp only [Act.put, List.setIfInBounds_toArray, List.set_cons_zero, List.set_cons_succ]
            refine hTake (i := 7) (v := ?v7_7) rfl (by kernel_rfl) (by kernel_rfl) (by kernel_rfl) (fun _ _ _ h => h) (Or.inl ⟨by rfl, ?hy7_7⟩) hS1 ?rest7_7
            case hy7_7 =>
              intro W hSw
              (try dsimp only at hSw)
              go_simp
              first | done | (with_reducible rfl)
            try simp only [Act.put, List.setIfInBounds_toArray, List.set_cons_zero, List.set_cons_succ]
            refine hTake (i := 8) (v := ?v8_8) rfl (by kernel_rfl) (by kernel_rfl) (by kernel_rfl) (fun _ _ _ h => h) (Or.inl ⟨by rfl, ?hy8_8⟩) hS1 ?rest8_8
            case hy8_8 =>
              intro W hSw
              (try dsimp only at hSw)
              go_simp
              first | done | (with_reducible rfl)
            try simp only [Act.put, List.setIfInBounds_toArray, List.set_cons_zero, List.set_cons_succ]
            refine hTake (i := 9) (v := ?v9_9) rfl (by kernel_rfl) (by kernel_rfl) (by kernel_rfl) (fun _ _ _ h => h) (Or.inl ⟨by rfl, ?hy9_9⟩) hS1 ?rest9_9
            case hy9_9 =>
              intro W hSw
              (try dsimp only at hSw)
              go_simp
              first | done | (with_reducible rfl)
            try simp only [Act.put, List.setIfInBounds_toArray, List.set_cons_zero, List.set_cons_succ]
            refine hTake (i := 10) (v := ?v10_10) rfl (by kernel_rfl) (by kernel_rfl) (by kernel_rfl) (fun _ _ _ h => h) (Or.inl ⟨by rfl, ?hy10_10⟩) hS1 ?rest10_10
            case hy10_10 =>
              intro W hSw
              (try dsimp only at hSw)
              go_simp
              first | done | (with_reducible rfl)
            try simp only [Act.put, List.setIfInBounds_toArray, List.set_cons_zero, List.set_cons_succ]
            refine hTake (i := 11) (v := ?v11_11) rfl (by kernel_rfl) (by kernel_rfl) (by kernel_rfl) (fun _ _ _ h => h) (Or.inl ⟨by rfl, ?hy11_11⟩) hS1 ?rest11_11
            case hy11_11 =>
              intro W hSw
              (try dsimp only at hSw)
              go_simp
              first | done | (with_reducible rfl)
            try simp only [Act.put, List.setIfInBounds_toArray, List.set_cons_zero, List.set_cons_succ]
            refine hTake (i := 12) (v := ?v12_12) rfl (by kernel_rfl) (by kernel_rfl) (by kernel_rfl) (fun _ _ _ h => h) (Or.inl ⟨by rfl, ?hy12_12⟩) hS1 ?rest12_12
            case hy12_12 =>
              intro W hSw
              (try dsimp only at hSw)
              go_simp
              first | done | (with_reducible rfl)
            try simp only [Act.put, List.setIfInBounds_toArray, List.set_cons_zero, List.set_cons_succ]
            refine hTake (i := 13) (v := ?v13_13) rfl (by kernel_rfl) (by kernel_rfl) (by kernel_rfl) (fun _ _ _ h => h) (Or.inl ⟨by rfl, ?hy13_13⟩) hS1 ?rest13_13
            case hy13_13 =>
              intro W hSw
              (try dsimp only at hSw)
              go_simp
              first | done | (with_reducible rfl)
            try simp only [Act.put, List.setIfInBounds_toArray, List.set_cons_zero, List.set_cons_succ]
            refine hTake (i := 14) (v := ?v14_14) rfl (by kernel_rfl) (by kernel_rfl) (by kernel_rfl) (fun _ _ _ h => h) (Or.inl ⟨by rfl, ?hy14_14⟩) hS1 ?rest14_14
            case hy14_14 =>
              intro W hSw
              (try dsimp only at hSw)
              go_simp
              first | done | (with_reducible rfl)
            try simp only [Act.put, List.setIfInBounds_toArray, List.set_cons_zero, List.set_cons_succ]
            refine wpAnyH_ready (rs := [15]) (by kernel_rfl) (by simp) ?_
            refine hStep (i := 15) rfl (fun K hK => ?_) AllReadyH.nil
            go_simp; go_at_call 18; refine (K2s.out _ BB1).mono ?_; rintro e v2 ⟨rfl, hb⟩; have BB2 := Below.then BB1 hb; clear hb; try go_wp2_with fail
            refine hK.out _ _ ?_ (fun hS2 => ?_)
            · (try dsimp only); exact KP.out _ BB2
            clear hK K
            try simp only [Act.put, List.setIfInBounds_toArray, List.set_cons_zero, List.set_cons_succ]
            refine hTake (i := 16) (v := ?v16_15) rfl (by kernel_rfl) (by kernel_rfl) (by kernel_rfl) (fun _ _ _ h => h) (Or.inl ⟨by rfl, ?hy16_15⟩) hS2 ?rest16_15
            case hy16_15 =>
              intro W hSw
              (try dsimp only at hSw)
              go_simp
              first | done | (with_reducible rfl)
            try simp only [Act.put, List.setIfInBounds_toArray, List.set_cons_zero, List.set_cons_succ]
            refine hTake (i := 17) (v := ?v17_16) rfl (by kernel_rfl) (by kernel_rfl) (by kernel_rfl) (fun _ _ _ h => h) (Or.inl ⟨by rfl, ?hy17_16⟩) hS2 ?rest17_16
            case hy17_16 =>
              intro W hSw
              (try dsimp only at hSw)
              go_simp
              first | done | (with_reducible rfl)
            try simp only [Act.put, List.setIfInBounds_toArray, List.set_cons_zero, List.set_cons_succ]
            refine hTake (i := 18) (v := ?v18_17) rfl (by kernel_rfl) (by kernel_rfl) (by kernel_rfl) (fun _ _ _ h => h) (Or.inl ⟨by rfl, ?hy18_17⟩) hS2 ?rest18_17
            case hy18_17 =>
              intro W hSw
              (try dsimp only at hSw)
              go_simp
              first | done | (with_reducible rfl)
            try simp only [Act.put, List.setIfInBounds_toArray, List.set_cons_zero, List.set_cons_succ]
            refine hTake (i := 19) (v := ?v19_18) rfl (by kernel_rfl) (by kernel_rfl) (by kernel_rfl) (fun _ _ _ h => h) (Or.inl ⟨by rfl, ?hy19_18⟩) hS2 ?rest19_18
            case hy19_18 =>
              intro W hSw
              (try dsimp only at hSw)
              go_simp
              first | done | (with_reducible rfl)
            try simp only [Act.put, List.setIfInBounds_toArray, List.set_cons_zero, List.set_cons_succ]
            refine hTake (i := 20) (v := ?v20_19) rfl (by kernel_rfl) (by kernel_rfl) (by kernel_rfl) (fun _ _ _ h => h) (Or.inl ⟨by rfl, ?hy20_19⟩) hS2 ?rest20_19
            case hy20_19 =>
              intro W hSw
              (try dsimp only at hSw)
              go_simp
              first | done | (with_reducible rfl)
            try simp only [Act.put, List.setIfInBounds_toArray, List.set_cons_zero, List.set_cons_succ]
            refine wpAnyH_ready (rs := [21]) (by kernel_rfl) (by simp) ?_
            refine hStep (i := 21) rfl (fun K hK => ?_) AllReadyH.nil
            go_simp; go_at_call 22; refine (K3s.out _ BB2).mono ?_; rintro e v3 ⟨rfl, hb⟩; have BB3 := Below.then BB2 hb; clear hb; try go_wp2_with fail
            refine hK.out _ _ ?_ (fun hS3 => ?_)
            · (try dsimp only); exact KP.out _ BB3
            clear hK K
            try simp only [Act.put, List.setIfInBounds_toArray, List.set_cons_zero, List.set_cons_succ]
            refine hTake (i := 22) (v := ?v22_20) rfl (by kernel_rfl) (by kernel_rfl) (by kernel_rfl) (fun _ _ _ h => h) (Or.inl ⟨by rfl, ?hy22_20⟩) hS3 ?rest22_20
            case hy22_20 =>
              intro W hSw
              (try dsimp only at hSw)
              go_simp
              first | done | (with_reducible rfl)
            try simp only [Act.put, List.setIfInBounds_toArray, List.set_cons_zero, List.set_cons_succ]
            refine hTake (i := 23) (v := ?v23_21) rfl (by kernel_rfl) (by kernel_rfl) (by kernel_rfl) (fun _ _ _ h => h) (Or.inl ⟨by rfl, ?hy23_21⟩) hS3 ?rest23_21
            case hy23_21 =>
              intro W hSw
              (try dsimp only at hSw)
              go_simp
              first | done | (with_reducible rfl)
            try simp only [Act.put, List.setIfInBounds_toArray, List.set_cons_zero, List.set_cons_succ]
            refine hTake (i := 24) (v := ?v24_22) rfl (by kernel_rfl) (by kernel_rfl) (by kernel_rfl) (fun _ _ _ h => h) (Or.inl ⟨by rfl, ?hy24_22⟩) hS3 ?rest24_22
            case hy24_22 =>
              intro W hSw
              (try dsimp only at hSw)
              go_simp
              first | done | (with_reducible rfl)
            try simp only [Act.put, List.setIfInBounds_toArray, List.set_cons_zero, List.set_cons_succ]
            refine hTake (i := 25) (v := ?v25_23) rfl (by kernel_rfl) (by kernel_rfl) (by kernel_rfl) (fun _ _ _ h => h) (Or.inl ⟨by rfl, ?hy25_23⟩) hS3 ?rest25_23
            case hy25_23 =>
              intro W hSw
              (try dsimp only at hSw)
              go_simp
              first | done | (with_reducible rfl)
            try simp only [Act.put, List.setIfInBounds_toArray, List.set_cons_zero, List.set_cons_succ]
            refine hTake (i := 26) (v := ?v26_24) rfl (by kernel_rfl) (by kernel_rfl) (by kernel_rfl) (fun _ _ _ h => h) (Or.inl ⟨by rfl, ?hy26_24⟩) hS3 ?rest26_24
            case hy26_24 =>
              intro W hSw
              (try dsimp only at hSw)
              go_simp
              first | done | (with_reducible rfl)
            try simp only [Act.put, List.setIfInBounds_toArray, List.set_cons_zero, List.set_cons_succ]
            refine hTake (i := 27) (v := ?v27_25) rfl (by kernel_rfl) (by kernel_rfl) (by kernel_rfl) (fun _ _ _ h => h) (Or.inl ⟨by rfl, ?hy27_25⟩) hS3 ?rest27_25
            case hy27_25 =>
              intro W hSw
              (try dsimp only at hSw)
              go_simp
              first | done | (with_reducible rfl)
            try simp only [Act.put, List.setIfInBounds_toArray, List.set_cons_zero, List.set_cons_succ]
            refine hTake (i := 28) (v := ?v28_26) rfl (by kernel_rfl) (by kernel_rfl) (by kernel_rfl) (fun _ _ _ h => h) (Or.inl ⟨by rfl, ?hy28_26⟩) hS3 ?rest28_26
            case hy28_26 =>
              intro W hSw
              (try dsimp only at hSw)
              go_simp
              first | done | (with_reducible rfl)
            try simp only [Act.put, List.setIfInBounds_toArray, List.set_cons_zero, List.set_cons_succ]
            refine hTake (i := 29) (v := ?v29_27) rfl (by kernel_rfl) (by kernel_rfl) (by kernel_rfl) (fun _ _ _ h => h) (Or.inl ⟨by rfl, ?hy29_27⟩) hS3 ?rest29_27
            case hy29_27 =>
              intro W hSw
              (try dsimp only at hSw)
              go_simp
              first | done | (with_reducible rfl)
            try simp only [Act.put, List.setIfInBounds_toArray, List.set_cons_zero, List.set_cons_succ]
            refine hTake (i := 30) (v := ?v30_28) rfl (by kernel_rfl) (by kernel_rfl) (by kernel_rfl) (fun _ _ _ h => h) (Or.inl ⟨by rfl, ?hy30_28⟩) hS3 ?rest30_28
            case hy30_28 =>
              intro W hSw
              (try dsimp only at hSw)
              go_simp
              first | done | (with_reducible rfl)
            try simp only [Act.put, List.setIfInBounds_toArray, List.set_cons_zero, List.set_cons_succ]
            refine hTake (i := 31) (v := ?v31_29) rfl (by kernel_rfl) (by kernel_rfl) (by kernel_rfl) (fun _ _ _ h => h) (Or.inl ⟨by rfl, ?hy31_29⟩) hS3 ?rest31_29
            case hy31_29 =>
              intro W hSw
              (try dsimp only at hSw)
              go_simp
              first | done | (with_reducible rfl)
            try simp only [Act.put, List.setIfInBounds_toArray, List.set_cons_zero, List.set_cons_succ]
            refine wpAnyH_ready (rs := [32]) (by kernel_rfl) (by simp) ?_
            refine hStep (i := 32) rfl (fun K hK => ?_) AllReadyH.nil
            go_simp; go_at_call 14; refine (K4s.out _ BB3).mono ?_; rintro e v4 ⟨rfl, hb⟩; have BB4 := Below.then BB3 hb; clear hb; try go_wp2_with fail
            refine hK.out _ _ ?_ (fun hS4 => ?_)
            · (try dsimp only); exact KP.out _ BB4
            clear hK K
            try simp only [Act.put, List.setIfInBounds_toArray, List.set_cons_zero, List.set_cons_succ]
            refine hTake (i := 33) (v := ?v33_30) rfl (by kernel_rfl) (by kernel_rfl) (by kernel_rfl) (fun _ _ _ h => h) (Or.inl ⟨by rfl, ?hy33_30⟩) hS4 ?rest33_30
            case hy33_30 =>
              intro W hSw
              (try dsimp only at hSw)
              go_simp
              first | done | (with_reducible rfl)
            try simp only [Act.put, List.setIfInBounds_toArray, List.set_cons_zero, List.set_cons_succ]
            refine hTake (i := 34) (v := ?v34_31) rfl (by kernel_rfl) (by kernel_rfl) (by kernel_rfl) (fun _ _ _ h => h) (Or.inl ⟨by rfl, ?hy34_31⟩) hS4 ?rest34_31
            case hy34_31 =>
              intro W hSw
              (try dsimp only at hSw)
              go_simp
              first | done | (with_reducible rfl)
            try simp only [Act.put, List.setIfInBounds_toArray, List.set_cons_zero, List.set_cons_succ]
            refine hTake (i := 35) (v := ?v35_32) rfl (by kernel_rfl) (by kernel_rfl) (by kernel_rfl) (fun _ _ _ h => h) (Or.inl ⟨by rfl, ?hy35_32⟩) hS4 ?rest35_32
            case hy35_32 =>
              intro W hSw
              (try dsimp only at hSw)
              go_simp
              first | done | (with_reducible rfl)
            try simp only [Act.put, List.setIfInBounds_toArray, List.set_cons_zero, List.set_cons_succ]
            refine hTake (i := 36) (v := ?v36_33) rfl (by kernel_rfl) (by kernel_rfl) (by kernel_rfl) (fun _ _ _ h => h) (Or.inl ⟨by rfl, ?hy36_33⟩) hS4 ?rest36_33
            case hy36_33 =>
              intro W hSw
              (try dsimp only at hSw)
              go_simp
              first | done | (with_reducible rfl)
            try simp only [Act.put, List.setIfInBounds_toArray, List.set_cons_zero, List.set_cons_succ]
            refine wpAnyH_ready (rs := [37]) (by kernel_rfl) (by simp) ?_
            refine hStep (i := 37) rfl (fun K hK => ?_) AllReadyH.nil
            go_simp; go_at_call 22; refine (K5s.out _ BB4).mono ?_; rintro e v5 ⟨rfl, hb⟩; have BB5 := Below.then BB4 hb; clear hb; try go_wp2_with fail
            refine hK.out _ _ ?_ (fun hS5 => ?_)
            · (try dsimp only); exact KP.out _ BB5
            clear hK K
            try simp only [Act.put, List.setIfInBounds_toArray, List.set_cons_zero, List.set_cons_succ]
            refine hTake (i := 38) (v := ?v38_34) rfl (by kernel_rfl) (by kernel_rfl) (by kernel_rfl) (fun _ _ _ h => h) (Or.inl ⟨by rfl, ?hy38_34⟩) hS5 ?rest38_34
            case hy38_34 =>
              intro W hSw
              (try dsimp only at hSw)
              go_simp
              first | done | (with_reducible rfl)
            try simp only [Act.put, List.setIfInBounds_toArray, List.set_cons_zero, List.set_cons_succ]
            refine hTake (i := 39) (v := ?v39_35) rfl (by kernel_rfl) (by kernel_rfl) (by kernel_rfl) (fun _ _ _ h => h) (Or.inl ⟨by rfl, ?hy39_35⟩) hS5 ?rest39_35
            case hy39_35 =>
              intro W hSw
              (try dsimp only at hSw)
              go_simp
              first | done | (with_reducible rfl)
            try simp only [Act.put, List.setIfInBounds_toArray, List.set_cons_zero, List.set_cons_succ]
            refine hTake (i := 40) (v := ?v40_36) rfl (by kernel_rfl) (by kernel_rfl) (by kernel_rfl) (fun _ _ _ h => h) (Or.inl ⟨by rfl, ?hy40_36⟩) hS5 ?rest40_36
            case hy40_36 =>
              intro W hSw
              (try dsimp only at hSw)
              go_simp
              first | done | (with_reducible rfl)
            try simp only [Act.put, List.setIfInBounds_toArray, List.set_cons_zero, List.set_cons_succ]
            refine hTake (i := 42) (v := ?v42_37) rfl (by kernel_rfl) (by kernel_rfl) (by kernel_rfl) (fun _ _ _ h => h) (Or.inl ⟨by rfl, ?hy42_37⟩) hS5 ?rest42_37
            case hy42_37 =>
              intro W hSw
              (try dsimp only at hSw)
              go_simp
              first | done | (with_reducible rfl)
            try simp only [Act.put, List.setIfInBounds_toArray, List.set_cons_zero, List.set_cons_succ]
            refine wpAnyH_ready (rs := [41]) (by kernel_rfl) (by simp) ?_
            refine hStep (i := 41) rfl (fun K hK => ?_) AllReadyH.nil
            go_simp; go_at_call 23; refine (K6s.out _ BB5).mono ?_; rintro e v6 ⟨rfl, hb⟩; have BB6 := Below.then BB5 hb; clear hb; try go_wp2_with fail
            refine hK.out _ _ ?_ (fun hS6 => ?_)
            · (try dsimp only); exact KP.out _ BB6
            clear hK K
            try simp only [Act.put, List.setIfInBounds_toArray, List.set_cons_zero, List.set_cons_succ]
            refine wpAnyH_ready (rs := [43]) (by kernel_rfl) (by simp) ?_
            refine hStep (i := 43) rfl (fun K hK => ?_) AllReadyH.nil
            go_simp; go_at_call 23; refine (K7s.out _ BB6).mono ?_; rintro e v7 ⟨rfl, hb⟩; have BB7 := Below.then BB6 hb; clear hb; try go_wp2_with fail
            refine hK.out _ _ ?_ (fun hS7 => ?_)
            · (try dsimp only); exact KP.out _ BB7
            clear hK K
            try simp only [Act.put, List.setIfInBounds_toArray, List.set_cons_zero, List.set_cons_succ]
            refine hTake (i := 44) (v := ?v44_38) rfl (by kernel_rfl) (by kernel_rfl) (by kernel_rfl) (fun _ _ _ h => h) (Or.inl ⟨by rfl, ?hy44_38⟩) hS7 ?rest44_38
            case hy44_38 =>
              intro W hSw
              (try dsimp only at hSw)
              go_simp
              first | done | (with_reducible rfl)
            try simp only [Act.put, List.setIfInBounds_toArray, List.set_cons_zero, List.set_cons_succ]
            refine hTake (i := 45) (v := ?v45_39) rfl (by kernel_rfl) (by kernel_rfl) (by kernel_rfl) (fun _ _ _ h => h) (Or.inl ⟨by rfl, ?hy45_39⟩) hS7 ?rest45_39
            case hy45_39 =>
              intro W hSw
              (try dsimp only at hSw)
              go_simp
              first | done | (with_reducible rfl)
            try simp only [Act.put, List.setIfInBounds_toArray, List.set_cons_zero, List.set_cons_succ]
            refine hTake (i := 46) (v := ?v46_40) rfl (by kernel_rfl) (by kernel_rfl) (by kernel_rfl) (fun _ _ _ h => h) (Or.inl ⟨by rfl, ?hy46_40⟩) hS7 ?rest46_40
            case hy46_40 =>
              intro W hSw
              (try dsimp only at hSw)
              go_simp
              first | done | (with_reducible rfl)
            try simp only [Act.put, List.setIfInBounds_toArray, List.set_cons_zero, List.set_cons_succ]
            refine hTake (i := 47) (v := ?v47_41) rfl (by kernel_rfl) (by kernel_rfl) (by kernel_rfl) (fun _ _ _ h => h) (Or.inl ⟨by rfl, ?hy47_41⟩) hS7 ?rest47_41
            case hy47_41 =>
              intro W hSw
              (try dsimp only at hSw)
              go_simp
              first | done | (with_reducible rfl)
            try simp only [Act.put, List.setIfInBounds_toArray, List.set_cons_zero, List.set_cons_succ]
            refine hTake (i := 48) (v := ?v48_42) rfl (by kernel_rfl) (by kernel_rfl) (by kernel_rfl) (fun _ _ _ h => h) (Or.inl ⟨by rfl, ?hy48_42⟩) hS7 ?rest48_42
            case hy48_42 =>
              intro W hSw
              (try dsimp only at hSw)
              go_simp
              first | done | (with_reducible rfl)
            try simp only [Act.put, List.setIfInBounds_toArray, List.set_cons_zero, List.set_cons_succ]
            refine hTake (i := 49) (v := ?v49_43) rfl (by kernel_rfl) (by kernel_rfl) (by kernel_rfl) (fun _ _ _ h => h) (Or.inl ⟨by rfl, ?hy49_43⟩) hS7 ?rest49_43
            case hy49_43 =>
              intro W hSw
              (try dsimp only at hSw)
              go_simp
              first | done | (with_reducible rfl)
            try simp only [Act.put, List.setIfInBounds_toArray, List.set_cons_zero, List.set_cons_succ]
            refine hSkip (i := 50) rfl (by kernel_rfl) (by kernel_rfl) (by kernel_rfl) (fun _ _ _ h => h) (by first | rfl | (simp [Region.wanted, yielded, *]; done)) hS7 ?_
            try simp only [Act.put, List.setIfInBounds_toArray, List.set_cons_zero, List.set_cons_succ]
            refine hSkip (i := 51) rfl (by kernel_rfl) (by kernel_rfl) (by kernel_rfl) (fun _ _ _ h => h) (by first | rfl | (simp [Region.wanted, yielded, *]; done)) hS7 ?_
            try simp only [Act.put, List.setIfInBounds_toArray, List.set_cons_zero, List.set_cons_succ]
            refine hSkip (i := 52) rfl (by kernel_rfl) (by kernel_rfl) (by kernel_rfl) (fun _ _ _ h => h) (by first | rfl | (simp [Region.wanted, yielded, *]; done)) hS7 ?_
            try simp only [Act.put, List.setIfInBounds_toArray, List.set_cons_zero, List.set_cons_succ]
            refine hSkip (i := 53) rfl (by kernel_rfl) (by kernel_rfl) (by kernel_rfl) (fun _ _ _ h => h) (by first | rfl | (simp [Region.wanted, yielded, *]; done)) hS7 ?_
            try simp only [Act.put, List.setIfInBounds_toArray, List.set_cons_zero, List.set_cons_succ]
            refine hSkip (i := 54) rfl (by kernel_rfl) (by kernel_rfl) (by kernel_rfl) (fun _ _ _ h => h) (by first | rfl | (simp [Region.wanted, yielded, *]; done)) hS7 ?_
            try simp only [Act.put, List.setIfInBounds_toArray, List.set_cons_zero, List.set_cons_succ]
            refine hTake (i := 55) (v := ?v55_49) rfl (by kernel_rfl) (by kernel_rfl) (by kernel_rfl) (fun _ _ _ h => h) (Or.inl ⟨by rfl, ?hy55_49⟩) hS7 ?rest55_49
            case hy55_49 =>
              intro W hSw
              (try dsimp only at hSw)
              go_simp
              first | done | (with_reducible rfl)
            try simp only [Act.put, List.setIfInBounds_toArray, List.set_cons_zero, List.set_cons_succ]
            refine hTake (i := 56) (v := ?v56_50) rfl (by kernel_rfl) (by kernel_rfl) (by kernel_rfl) (fun _ _ _ h => h) (Or.inl ⟨by rfl, ?hy56_50⟩) hS7 ?rest56_50
            case hy56_50 =>
              intro W hSw
              (try dsimp only at hSw)
              go_simp
              first | done | (with_reducible rfl)
            try simp only [Act.put, List.setIfInBounds_toArray, List.set_cons_zero, List.set_cons_succ]
            refine hTake (i := 57) (v := ?v57_51) rfl (by kernel_rfl) (by kernel_rfl) (by kernel_rfl) (fun _ _ _ h => h) (Or.inl ⟨by rfl, ?hy57_51⟩) hS7 ?rest57_51
            case hy57_51 =>
              intro W hSw
              (try dsimp only at hSw)
              go_simp
              first | done | (with_reducible rfl)
            try simp only [Act.put, List.setIfInBounds_toArray, List.set_cons_zero, List.set_cons_succ]
            refine hTake (i := 58) (v := ?v58_52) rfl (by kernel_rfl) (by kernel_rfl) (by kernel_rfl) (fun _ _ _ h => h) (Or.inl ⟨by rfl, ?hy58_52⟩) hS7 ?rest58_52
            case hy58_52 =>
              intro W hSw
              (try dsimp only at hSw)
              go_simp
              first | done | (with_reducible rfl)
            try simp only [Act.put, List.setIfInBounds_toArray, List.set_cons_zero, List.set_cons_succ]
            refine hTake (i := 59) (v := ?v59_53) rfl (by kernel_rfl) (by kernel_rfl) (by kernel_rfl) (fun _ _ _ h => h) (Or.inl ⟨by rfl, ?hy59_53⟩) hS7 ?rest59_53
            case hy59_53 =>
              intro W hSw
              (try dsimp only at hSw)
              go_simp
              first | done | (with_reducible rfl)
            try simp only [Act.put, List.setIfInBounds_toArray, List.set_cons_zero, List.set_cons_succ]
            refine hTake (i := 60) (v := ?v60_54) rfl (by kernel_rfl) (by kernel_rfl) (by kernel_rfl) (fun _ _ _ h => h) (Or.inl ⟨by rfl, ?hy60_54⟩) hS7 ?rest60_54
            case hy60_54 =>
              intro W hSw
              (try dsimp only at hSw)
              go_simp
              first | done | (with_reducible rfl)
            try simp only [Act.put, List.setIfInBounds_toArray, List.set_cons_zero, List.set_cons_succ]
            refine hTake (i := 61) (v := ?v61_55) rfl (by kernel_rfl) (by kernel_rfl) (by kernel_rfl) (fun _ _ _ h => h) (Or.inl ⟨by rfl, ?hy61_55⟩) hS7 ?rest61_55
            case hy61_55 =>
              intro W hSw
              (try dsimp only at hSw)
              go_simp
              first | done | (with_reducible rfl)
            try simp only [Act.put, List.setIfInBounds_toArray, List.set_cons_zero, List.set_cons_succ]
            refine wpAnyH_ready (rs := [62]) (by kernel_rfl) (by simp) ?_
            refine hStep (i := 62) rfl (fun K hK => ?_) AllReadyH.nil
            go_simp; go_at_call 6; refine (K8s.out _ BB7).mono ?_; rintro e v8 ⟨rfl, hb⟩; have BB8 := Below.then BB7 hb; clear hb; try go_wp2_with fail
            refine hK.out _ _ ?_ (fun hS8 => ?_)
            · (try dsimp only); exact KP.out _ BB8
            clear hK K
            try simp only [Act.put, List.setIfInBounds_toArray, List.set_cons_zero, List.set_cons_succ]
            refine hTake (i := 63) (v := ?v63_56) rfl (by kernel_rfl) (by kernel_rfl) (by kernel_rfl) (fun _ _ _ h => h) (Or.inl ⟨by rfl, ?hy63_56⟩) hS8 ?rest63_56
            case hy63_56 =>
              intro W hSw
              (try dsimp only at hSw)
              go_simp
              first | done | (with_reducible rfl)
            try simp only [Act.put, List.setIfInBounds_toArray, List.set_cons_zero, List.set_cons_succ]
            refine hTake (i := 64) (v := ?v64_57) rfl (by kernel_rfl) (by kernel_rfl) (by kernel_rfl) (fun _ _ _ h => h) (Or.inl ⟨by rfl, ?hy64_57⟩) hS8 ?rest64_57
            case hy64_57 =>
              intro W hSw
              (try dsimp only at hSw)
              go_simp
              first | done | (with_reducible rfl)
            try simp only [Act.put, List.setIfInBounds_toArray, List.set_cons_zero, List.set_cons_succ]
            refine wpAnyH_ready (rs := [65]) (by kernel_rfl) (by simp) ?_
            refine hStep (i := 65) rfl (fun K hK => ?_) AllReadyH.nil
            go_simp; go_at_call 24; refine (K9s.out _ BB8).mono ?_; rintro e v9 ⟨rfl, hb⟩; have BB9 := Below.then BB8 hb; clear hb; try go_wp2_with fail
            refine hK.out _ _ ?_ (fun hS9 => ?_)
            · (try dsimp only); exact KP.out _ BB9
            clear hK K
            try simp only [Act.put, List.setIfInBounds_toArray, List.set_cons_zero, List.set_cons_succ]
            refine hTake (i := 66) (v := ?v66_58) rfl (by kernel_rfl) (by kernel_rfl) (by kernel_rfl) (fun _ _ _ h => h) (Or.inl ⟨by rfl, ?hy66_58⟩) hS9 ?rest66_58
            case hy66_58 =>
              intro W hSw
              (try dsimp only at hSw)
              go_simp
              first | done | (with_reducible rfl)
            try simp only [Act.put, List.setIfInBounds_toArray, List.set_cons_zero, List.set_cons_succ]
            refine hTake (i := 67) (v := ?v67_59) rfl (by kernel_rfl) (by kernel_rfl) (by kernel_rfl) (fun _ _ _ h => h) (Or.inl ⟨by rfl, ?hy67_59⟩) hS9 ?rest67_59
            case hy67_59 =>
              intro W hSw
              (try dsimp only at hSw)
              go_simp
              first | done | (with_reducible rfl)
            try simp only [Act.put, List.setIfInBounds_toArray, List.set_cons_zero, List.set_cons_succ]
            refine hTake (i := 68) (v := ?v68_60) rfl (by kernel_rfl) (by kernel_rfl) (by kernel_rfl) (fun _ _ _ h => h) (Or.inl ⟨by rfl, ?hy68_60⟩) hS9 ?rest68_60
            case hy68_60 =>
              intro W hSw
              (try dsimp only at hSw)
              go_simp
              first | done | (with_reducible rfl)
            try simp only [Act.put, List.setIfInBounds_toArray, List.set_cons_zero, List.set_cons_succ]
            refine wpAnyH_done (by kernel_rfl) ?_ _
            have HZ := Lib.hid (Below.then HB52.out BB9)
            go_wp2
            go_ret
            exact ⟨rfl, HZ.out⟩
          · have hd7 : decide ((6 : Int) < (n : Int)) = false := by rw [decide_eq_false_iff_not]; have := conn_n HK.out; omega
            have hn5 : n < 6 := by have := conn_n HK.out; omega
            have hmod := sym_rot HK.out hn5
            rw [← HX.out] at hmod
            have KCs : Hid (∀ W, Below w52.heap.size w52 W → Calls Tryd.prog 18 #[.agg #[.int .i64 n, .slice Y n cy]] W fun e w' => e = .returned (.int .i64 (cntL xs (ordL n) : Nat)) ∧ Below W.heap.size W w') := Lib.hid fun W hW => by
              exact cCnt HP.out (by omega) (HT52.out.below hW).2
            generalize cntL xs (ordL n) = K2 at *
            have hnz : ¬ n = 0 := by omega
            clear h7 hn5
            have hk3 : Int.tmod (K2 : Int) (n : Int) = 0 := by rw [Int.tmod_eq_emod_of_nonneg (by omega)]; omega
            refine wp_region_held_drew (S := fun W => W.cell? ⟨bx, 0, none⟩ = some (.int .i64 n) ∧ W.cell? ⟨bx, 1, none⟩ = some (.slice Y n cy) ∧ W.cell? ⟨bU, 0, none⟩ = some (.int .i64 m) ∧ W.cell? ⟨bU, 1, none⟩ = some (.slice UA m uc) ∧ W.cell? ⟨bR, 0, none⟩ = some (.int .i64 m) ∧ W.cell? ⟨bR, 1, none⟩ = some (.slice RA m rcc) ∧ W.cell? ⟨bF, 0, none⟩ = some (.int .i64 m) ∧ W.cell? ⟨bF, 1, none⟩ = some (.slice LA m lc) ∧ W.cell? ⟨bG, 0, none⟩ = some (.int .i64 m) ∧ W.cell? ⟨bG, 1, none⟩ = some (.slice LB m ld) ∧ W.cell? ⟨bS, 0, none⟩ = some (.int .i64 7) ∧ W.cell? ⟨bS, 1, none⟩ = some (.slice SA 7 sc)) (by kernel_rfl) (KP.out _ BB0) (fun hS0 => ?_)
            refine hTake (i := 0) (v := ?v0_61) rfl (by kernel_rfl) (by kernel_rfl) (by kernel_rfl) (fun _ _ _ h => h) (Or.inl ⟨by rfl, ?hy0_61⟩) hS0 ?rest0_61
            case hy0_61 =>
              intro W hSw
              (try dsimp only at hSw)
              go_simp
              first | done | (with_reducible rfl)
            try simp only [Act.put, List.setIfInBounds_toArray, List.set_cons_zero, List.set_cons_succ]
            refine hTake (i := 1) (v := ?v1_62) rfl (by kernel_rfl) (by kernel_rfl) (by kernel_rfl) (fun _ _ _ h => h) (Or.inl ⟨by rfl, ?hy1_62⟩) hS0 ?rest1_62
            case hy1_62 =>
              intro W hSw
              (try dsimp only at hSw)
              go_simp
              first | done | (with_reducible rfl)
            try simp only [Act.put, List.setIfInBounds_toArray, List.set_cons_zero, List.set_cons_succ]
            refine wpAnyH_ready (rs := [2]) (by kernel_rfl) (by simp) ?_
            refine hStep (i := 2) rfl (fun K hK => ?_) AllReadyH.nil
            go_simp; go_at_call 21; refine (K1s.out _ _ (HV52.out.below BB0) BB0).mono ?_; rintro e v1 ⟨rfl, hb⟩; have BB1 := Below.then BB0 hb; clear hb; try go_wp2_with fail
            refine hK.out _ _ ?_ (fun hS1 => ?_)
            · (try dsimp only); exact KP.out _ BB1
            clear hK K
            try simp only [Act.put, List.setIfInBounds_toArray, List.set_cons_zero, List.set_cons_succ]
            refine hTake (i := 3) (v := ?v3_63) rfl (by kernel_rfl) (by kernel_rfl) (by kernel_rfl) (fun _ _ _ h => h) (Or.inl ⟨by rfl, ?hy3_63⟩) hS1 ?rest3_63
            case hy3_63 =>
              intro W hSw
              (try dsimp only at hSw)
              go_simp
              first | done | (with_reducible rfl)
            try simp only [Act.put, List.setIfInBounds_toArray, List.set_cons_zero, List.set_cons_succ]
            refine hTake (i := 4) (v := ?v4_64) rfl (by kernel_rfl) (by kernel_rfl) (by kernel_rfl) (fun _ _ _ h => h) (Or.inl ⟨by rfl, ?hy4_64⟩) hS1 ?rest4_64
            case hy4_64 =>
              intro W hSw
              (try dsimp only at hSw)
              go_simp
              first | done | (with_reducible rfl)
            try simp only [Act.put, List.setIfInBounds_toArray, List.set_cons_zero, List.set_cons_succ]
            refine hTake (i := 5) (v := ?v5_65) rfl (by kernel_rfl) (by kernel_rfl) (by kernel_rfl) (fun _ _ _ h => h) (Or.inl ⟨by rfl, ?hy5_65⟩) hS1 ?rest5_65
            case hy5_65 =>
              intro W hSw
              (try dsimp only at hSw)
              go_simp
              first | done | (with_reducible rfl)
            try simp only [Act.put, List.setIfInBounds_toArray, List.set_cons_zero, List.set_cons_succ]
            refine hTake (i := 6) (v := ?v6_66) rfl (by kernel_rfl) (by kernel_rfl) (by kernel_rfl) (fun _ _ _ h => h) (Or.inl ⟨by rfl, ?hy6_66⟩) hS1 ?rest6_66
            case hy6_66 =>
              intro W hSw
              (try dsimp only at hSw)
              go_simp
              first | done | (with_reducible rfl)
            try simp only [Act.put, List.setIfInBounds_toArray, List.set_cons_zero, List.set_cons_succ]
            refine hTake (i := 7) (v := ?v7_67) rfl (by kernel_rfl) (by kernel_rfl) (by kernel_rfl) (fun _ _ _ h => h) (Or.inl ⟨by rfl, ?hy7_67⟩) hS1 ?rest7_67
            case hy7_67 =>
              intro W hSw
              (try dsimp only at hSw)
              go_simp
              first | done | (with_reducible rfl)
            try simp only [Act.put, List.setIfInBounds_toArray, List.set_cons_zero, List.set_cons_succ]
            refine hTake (i := 8) (v := ?v8_68) rfl (by kernel_rfl) (by kernel_rfl) (by kernel_rfl) (fun _ _ _ h => h) (Or.inl ⟨by rfl, ?hy8_68⟩) hS1 ?rest8_68
            case hy8_68 =>
              intro W hSw
              (try dsimp only at hSw)
              go_simp
              first | done | (with_reducible rfl)
            try simp only [Act.put, List.setIfInBounds_toArray, List.set_cons_zero, List.set_cons_succ]
            refine hTake (i := 9) (v := ?v9_69) rfl (by kernel_rfl) (by kernel_rfl) (by kernel_rfl) (fun _ _ _ h => h) (Or.inl ⟨by rfl, ?hy9_69⟩) hS1 ?rest9_69
            case hy9_69 =>
              intro W hSw
              (try dsimp only at hSw)
              go_simp
              first | done | (with_reducible rfl)
            try simp only [Act.put, List.setIfInBounds_toArray, List.set_cons_zero, List.set_cons_succ]
            refine hTake (i := 10) (v := ?v10_70) rfl (by kernel_rfl) (by kernel_rfl) (by kernel_rfl) (fun _ _ _ h => h) (Or.inl ⟨by rfl, ?hy10_70⟩) hS1 ?rest10_70
            case hy10_70 =>
              intro W hSw
              (try dsimp only at hSw)
              go_simp
              first | done | (with_reducible rfl)
            try simp only [Act.put, List.setIfInBounds_toArray, List.set_cons_zero, List.set_cons_succ]
            refine hTake (i := 11) (v := ?v11_71) rfl (by kernel_rfl) (by kernel_rfl) (by kernel_rfl) (fun _ _ _ h => h) (Or.inl ⟨by rfl, ?hy11_71⟩) hS1 ?rest11_71
            case hy11_71 =>
              intro W hSw
              (try dsimp only at hSw)
              go_simp
              first | done | (with_reducible rfl)
            try simp only [Act.put, List.setIfInBounds_toArray, List.set_cons_zero, List.set_cons_succ]
            refine hTake (i := 12) (v := ?v12_72) rfl (by kernel_rfl) (by kernel_rfl) (by kernel_rfl) (fun _ _ _ h => h) (Or.inl ⟨by rfl, ?hy12_72⟩) hS1 ?rest12_72
            case hy12_72 =>
              intro W hSw
              (try dsimp only at hSw)
              go_simp
              first | done | (with_reducible rfl)
            try simp only [Act.put, List.setIfInBounds_toArray, List.set_cons_zero, List.set_cons_succ]
            refine hTake (i := 13) (v := ?v13_73) rfl (by kernel_rfl) (by kernel_rfl) (by kernel_rfl) (fun _ _ _ h => h) (Or.inl ⟨by rfl, ?hy13_73⟩) hS1 ?rest13_73
            case hy13_73 =>
              intro W hSw
              (try dsimp only at hSw)
              go_simp
              first | done | (with_reducible rfl)
            try simp only [Act.put, List.setIfInBounds_toArray, List.set_cons_zero, List.set_cons_succ]
            refine hTake (i := 14) (v := ?v14_74) rfl (by kernel_rfl) (by kernel_rfl) (by kernel_rfl) (fun _ _ _ h => h) (Or.inl ⟨by rfl, ?hy14_74⟩) hS1 ?rest14_74
            case hy14_74 =>
              intro W hSw
              (try dsimp only at hSw)
              go_simp
              first | done | (with_reducible rfl)
            try simp only [Act.put, List.setIfInBounds_toArray, List.set_cons_zero, List.set_cons_succ]
            refine wpAnyH_ready (rs := [15]) (by kernel_rfl) (by simp) ?_
            refine hStep (i := 15) rfl (fun K hK => ?_) AllReadyH.nil
            go_simp; go_at_call 18; refine (K2s.out _ BB1).mono ?_; rintro e v2 ⟨rfl, hb⟩; have BB2 := Below.then BB1 hb; clear hb; try go_wp2_with fail
            refine hK.out _ _ ?_ (fun hS2 => ?_)
            · (try dsimp only); exact KP.out _ BB2
            clear hK K
            try simp only [Act.put, List.setIfInBounds_toArray, List.set_cons_zero, List.set_cons_succ]
            refine hTake (i := 16) (v := ?v16_75) rfl (by kernel_rfl) (by kernel_rfl) (by kernel_rfl) (fun _ _ _ h => h) (Or.inl ⟨by rfl, ?hy16_75⟩) hS2 ?rest16_75
            case hy16_75 =>
              intro W hSw
              (try dsimp only at hSw)
              go_simp
              first | done | (with_reducible rfl)
            try simp only [Act.put, List.setIfInBounds_toArray, List.set_cons_zero, List.set_cons_succ]
            refine hTake (i := 17) (v := ?v17_76) rfl (by kernel_rfl) (by kernel_rfl) (by kernel_rfl) (fun _ _ _ h => h) (Or.inl ⟨by rfl, ?hy17_76⟩) hS2 ?rest17_76
            case hy17_76 =>
              intro W hSw
              (try dsimp only at hSw)
              go_simp
              first | done | (with_reducible rfl)
            try simp only [Act.put, List.setIfInBounds_toArray, List.set_cons_zero, List.set_cons_succ]
            refine hTake (i := 18) (v := ?v18_77) rfl (by kernel_rfl) (by kernel_rfl) (by kernel_rfl) (fun _ _ _ h => h) (Or.inl ⟨by rfl, ?hy18_77⟩) hS2 ?rest18_77
            case hy18_77 =>
              intro W hSw
              (try dsimp only at hSw)
              go_simp
              first | done | (with_reducible rfl)
            try simp only [Act.put, List.setIfInBounds_toArray, List.set_cons_zero, List.set_cons_succ]
            refine hTake (i := 19) (v := ?v19_78) rfl (by kernel_rfl) (by kernel_rfl) (by kernel_rfl) (fun _ _ _ h => h) (Or.inl ⟨by rfl, ?hy19_78⟩) hS2 ?rest19_78
            case hy19_78 =>
              intro W hSw
              (try dsimp only at hSw)
              go_simp
              first | done | (with_reducible rfl)
            try simp only [Act.put, List.setIfInBounds_toArray, List.set_cons_zero, List.set_cons_succ]
            refine hTake (i := 20) (v := ?v20_79) rfl (by kernel_rfl) (by kernel_rfl) (by kernel_rfl) (fun _ _ _ h => h) (Or.inl ⟨by rfl, ?hy20_79⟩) hS2 ?rest20_79
            case hy20_79 =>
              intro W hSw
              (try dsimp only at hSw)
              go_simp
              first | done | (with_reducible rfl)
            try simp only [Act.put, List.setIfInBounds_toArray, List.set_cons_zero, List.set_cons_succ]
            refine wpAnyH_ready (rs := [21]) (by kernel_rfl) (by simp) ?_
            refine hStep (i := 21) rfl (fun K hK => ?_) AllReadyH.nil
            go_simp; go_at_call 22; refine (K3s.out _ BB2).mono ?_; rintro e v3 ⟨rfl, hb⟩; have BB3 := Below.then BB2 hb; clear hb; try go_wp2_with fail
            refine hK.out _ _ ?_ (fun hS3 => ?_)
            · (try dsimp only); exact KP.out _ BB3
            clear hK K
            try simp only [Act.put, List.setIfInBounds_toArray, List.set_cons_zero, List.set_cons_succ]
            refine hTake (i := 22) (v := ?v22_80) rfl (by kernel_rfl) (by kernel_rfl) (by kernel_rfl) (fun _ _ _ h => h) (Or.inl ⟨by rfl, ?hy22_80⟩) hS3 ?rest22_80
            case hy22_80 =>
              intro W hSw
              (try dsimp only at hSw)
              go_simp
              first | done | (with_reducible rfl)
            try simp only [Act.put, List.setIfInBounds_toArray, List.set_cons_zero, List.set_cons_succ]
            refine hTake (i := 23) (v := ?v23_81) rfl (by kernel_rfl) (by kernel_rfl) (by kernel_rfl) (fun _ _ _ h => h) (Or.inl ⟨by rfl, ?hy23_81⟩) hS3 ?rest23_81
            case hy23_81 =>
              intro W hSw
              (try dsimp only at hSw)
              go_simp
              first | done | (with_reducible rfl)
            try simp only [Act.put, List.setIfInBounds_toArray, List.set_cons_zero, List.set_cons_succ]
            refine hTake (i := 24) (v := ?v24_82) rfl (by kernel_rfl) (by kernel_rfl) (by kernel_rfl) (fun _ _ _ h => h) (Or.inl ⟨by rfl, ?hy24_82⟩) hS3 ?rest24_82
            case hy24_82 =>
              intro W hSw
              (try dsimp only at hSw)
              go_simp
              first | done | (with_reducible rfl)
            try simp only [Act.put, List.setIfInBounds_toArray, List.set_cons_zero, List.set_cons_succ]
            refine hTake (i := 25) (v := ?v25_83) rfl (by kernel_rfl) (by kernel_rfl) (by kernel_rfl) (fun _ _ _ h => h) (Or.inl ⟨by rfl, ?hy25_83⟩) hS3 ?rest25_83
            case hy25_83 =>
              intro W hSw
              (try dsimp only at hSw)
              go_simp
              first | done | (with_reducible rfl)
            try simp only [Act.put, List.setIfInBounds_toArray, List.set_cons_zero, List.set_cons_succ]
            refine hTake (i := 26) (v := ?v26_84) rfl (by kernel_rfl) (by kernel_rfl) (by kernel_rfl) (fun _ _ _ h => h) (Or.inl ⟨by rfl, ?hy26_84⟩) hS3 ?rest26_84
            case hy26_84 =>
              intro W hSw
              (try dsimp only at hSw)
              go_simp
              first | done | (with_reducible rfl)
            try simp only [Act.put, List.setIfInBounds_toArray, List.set_cons_zero, List.set_cons_succ]
            refine hTake (i := 27) (v := ?v27_85) rfl (by kernel_rfl) (by kernel_rfl) (by kernel_rfl) (fun _ _ _ h => h) (Or.inl ⟨by rfl, ?hy27_85⟩) hS3 ?rest27_85
            case hy27_85 =>
              intro W hSw
              (try dsimp only at hSw)
              go_simp
              first | done | (with_reducible rfl)
            try simp only [Act.put, List.setIfInBounds_toArray, List.set_cons_zero, List.set_cons_succ]
            refine hTake (i := 28) (v := ?v28_86) rfl (by kernel_rfl) (by kernel_rfl) (by kernel_rfl) (fun _ _ _ h => h) (Or.inl ⟨by rfl, ?hy28_86⟩) hS3 ?rest28_86
            case hy28_86 =>
              intro W hSw
              (try dsimp only at hSw)
              go_simp
              first | done | (with_reducible rfl)
            try simp only [Act.put, List.setIfInBounds_toArray, List.set_cons_zero, List.set_cons_succ]
            refine hTake (i := 29) (v := ?v29_87) rfl (by kernel_rfl) (by kernel_rfl) (by kernel_rfl) (fun _ _ _ h => h) (Or.inl ⟨by rfl, ?hy29_87⟩) hS3 ?rest29_87
            case hy29_87 =>
              intro W hSw
              (try dsimp only at hSw)
              go_simp
              first | done | (with_reducible rfl)
            try simp only [Act.put, List.setIfInBounds_toArray, List.set_cons_zero, List.set_cons_succ]
            refine hTake (i := 30) (v := ?v30_88) rfl (by kernel_rfl) (by kernel_rfl) (by kernel_rfl) (fun _ _ _ h => h) (Or.inl ⟨by rfl, ?hy30_88⟩) hS3 ?rest30_88
            case hy30_88 =>
              intro W hSw
              (try dsimp only at hSw)
              go_simp
              first | done | (with_reducible rfl)
            try simp only [Act.put, List.setIfInBounds_toArray, List.set_cons_zero, List.set_cons_succ]
            refine hTake (i := 31) (v := ?v31_89) rfl (by kernel_rfl) (by kernel_rfl) (by kernel_rfl) (fun _ _ _ h => h) (Or.inl ⟨by rfl, ?hy31_89⟩) hS3 ?rest31_89
            case hy31_89 =>
              intro W hSw
              (try dsimp only at hSw)
              go_simp
              first | done | (with_reducible rfl)
            try simp only [Act.put, List.setIfInBounds_toArray, List.set_cons_zero, List.set_cons_succ]
            refine wpAnyH_ready (rs := [32]) (by kernel_rfl) (by simp) ?_
            refine hStep (i := 32) rfl (fun K hK => ?_) AllReadyH.nil
            go_simp; go_at_call 14; refine (K4s.out _ BB3).mono ?_; rintro e v4 ⟨rfl, hb⟩; have BB4 := Below.then BB3 hb; clear hb; try go_wp2_with fail
            refine hK.out _ _ ?_ (fun hS4 => ?_)
            · (try dsimp only); exact KP.out _ BB4
            clear hK K
            try simp only [Act.put, List.setIfInBounds_toArray, List.set_cons_zero, List.set_cons_succ]
            refine hTake (i := 33) (v := ?v33_90) rfl (by kernel_rfl) (by kernel_rfl) (by kernel_rfl) (fun _ _ _ h => h) (Or.inl ⟨by rfl, ?hy33_90⟩) hS4 ?rest33_90
            case hy33_90 =>
              intro W hSw
              (try dsimp only at hSw)
              go_simp
              first | done | (with_reducible rfl)
            try simp only [Act.put, List.setIfInBounds_toArray, List.set_cons_zero, List.set_cons_succ]
            refine hTake (i := 34) (v := ?v34_91) rfl (by kernel_rfl) (by kernel_rfl) (by kernel_rfl) (fun _ _ _ h => h) (Or.inl ⟨by rfl, ?hy34_91⟩) hS4 ?rest34_91
            case hy34_91 =>
              intro W hSw
              (try dsimp only at hSw)
              go_simp
              first | done | (with_reducible rfl)
            try simp only [Act.put, List.setIfInBounds_toArray, List.set_cons_zero, List.set_cons_succ]
            refine hTake (i := 35) (v := ?v35_92) rfl (by kernel_rfl) (by kernel_rfl) (by kernel_rfl) (fun _ _ _ h => h) (Or.inl ⟨by rfl, ?hy35_92⟩) hS4 ?rest35_92
            case hy35_92 =>
              intro W hSw
              (try dsimp only at hSw)
              go_simp
              first | done | (with_reducible rfl)
            try simp only [Act.put, List.setIfInBounds_toArray, List.set_cons_zero, List.set_cons_succ]
            refine hTake (i := 36) (v := ?v36_93) rfl (by kernel_rfl) (by kernel_rfl) (by kernel_rfl) (fun _ _ _ h => h) (Or.inl ⟨by rfl, ?hy36_93⟩) hS4 ?rest36_93
            case hy36_93 =>
              intro W hSw
              (try dsimp only at hSw)
              go_simp
              first | done | (with_reducible rfl)
            try simp only [Act.put, List.setIfInBounds_toArray, List.set_cons_zero, List.set_cons_succ]
            refine wpAnyH_ready (rs := [37]) (by kernel_rfl) (by simp) ?_
            refine hStep (i := 37) rfl (fun K hK => ?_) AllReadyH.nil
            go_simp; go_at_call 22; refine (K5s.out _ BB4).mono ?_; rintro e v5 ⟨rfl, hb⟩; have BB5 := Below.then BB4 hb; clear hb; try go_wp2_with fail
            refine hK.out _ _ ?_ (fun hS5 => ?_)
            · (try dsimp only); exact KP.out _ BB5
            clear hK K
            try simp only [Act.put, List.setIfInBounds_toArray, List.set_cons_zero, List.set_cons_succ]
            refine hTake (i := 38) (v := ?v38_94) rfl (by kernel_rfl) (by kernel_rfl) (by kernel_rfl) (fun _ _ _ h => h) (Or.inl ⟨by rfl, ?hy38_94⟩) hS5 ?rest38_94
            case hy38_94 =>
              intro W hSw
              (try dsimp only at hSw)
              go_simp
              first | done | (with_reducible rfl)
            try simp only [Act.put, List.setIfInBounds_toArray, List.set_cons_zero, List.set_cons_succ]
            refine hTake (i := 39) (v := ?v39_95) rfl (by kernel_rfl) (by kernel_rfl) (by kernel_rfl) (fun _ _ _ h => h) (Or.inl ⟨by rfl, ?hy39_95⟩) hS5 ?rest39_95
            case hy39_95 =>
              intro W hSw
              (try dsimp only at hSw)
              go_simp
              first | done | (with_reducible rfl)
            try simp only [Act.put, List.setIfInBounds_toArray, List.set_cons_zero, List.set_cons_succ]
            refine hTake (i := 40) (v := ?v40_96) rfl (by kernel_rfl) (by kernel_rfl) (by kernel_rfl) (fun _ _ _ h => h) (Or.inl ⟨by rfl, ?hy40_96⟩) hS5 ?rest40_96
            case hy40_96 =>
              intro W hSw
              (try dsimp only at hSw)
              go_simp
              first | done | (with_reducible rfl)
            try simp only [Act.put, List.setIfInBounds_toArray, List.set_cons_zero, List.set_cons_succ]
            refine hTake (i := 42) (v := ?v42_97) rfl (by kernel_rfl) (by kernel_rfl) (by kernel_rfl) (fun _ _ _ h => h) (Or.inl ⟨by rfl, ?hy42_97⟩) hS5 ?rest42_97
            case hy42_97 =>
              intro W hSw
              (try dsimp only at hSw)
              go_simp
              first | done | (with_reducible rfl)
            try simp only [Act.put, List.setIfInBounds_toArray, List.set_cons_zero, List.set_cons_succ]
            refine wpAnyH_ready (rs := [41]) (by kernel_rfl) (by simp) ?_
            refine hStep (i := 41) rfl (fun K hK => ?_) AllReadyH.nil
            go_simp; go_at_call 23; refine (K6s.out _ BB5).mono ?_; rintro e v6 ⟨rfl, hb⟩; have BB6 := Below.then BB5 hb; clear hb; try go_wp2_with fail
            refine hK.out _ _ ?_ (fun hS6 => ?_)
            · (try dsimp only); exact KP.out _ BB6
            clear hK K
            try simp only [Act.put, List.setIfInBounds_toArray, List.set_cons_zero, List.set_cons_succ]
            refine wpAnyH_ready (rs := [43]) (by kernel_rfl) (by simp) ?_
            refine hStep (i := 43) rfl (fun K hK => ?_) AllReadyH.nil
            go_simp; go_at_call 23; refine (K7s.out _ BB6).mono ?_; rintro e v7 ⟨rfl, hb⟩; have BB7 := Below.then BB6 hb; clear hb; try go_wp2_with fail
            refine hK.out _ _ ?_ (fun hS7 => ?_)
            · (try dsimp only); exact KP.out _ BB7
            clear hK K
            try simp only [Act.put, List.setIfInBounds_toArray, List.set_cons_zero, List.set_cons_succ]
            refine hTake (i := 44) (v := ?v44_98) rfl (by kernel_rfl) (by kernel_rfl) (by kernel_rfl) (fun _ _ _ h => h) (Or.inl ⟨by rfl, ?hy44_98⟩) hS7 ?rest44_98
            case hy44_98 =>
              intro W hSw
              (try dsimp only at hSw)
              go_simp
              first | done | (with_reducible rfl)
            try simp only [Act.put, List.setIfInBounds_toArray, List.set_cons_zero, List.set_cons_succ]
            refine hTake (i := 45) (v := ?v45_99) rfl (by kernel_rfl) (by kernel_rfl) (by kernel_rfl) (fun _ _ _ h => h) (Or.inl ⟨by rfl, ?hy45_99⟩) hS7 ?rest45_99
            case hy45_99 =>
              intro W hSw
              (try dsimp only at hSw)
              go_simp
              first | done | (with_reducible rfl)
            try simp only [Act.put, List.setIfInBounds_toArray, List.set_cons_zero, List.set_cons_succ]
            refine hTake (i := 46) (v := ?v46_100) rfl (by kernel_rfl) (by kernel_rfl) (by kernel_rfl) (fun _ _ _ h => h) (Or.inl ⟨by rfl, ?hy46_100⟩) hS7 ?rest46_100
            case hy46_100 =>
              intro W hSw
              (try dsimp only at hSw)
              go_simp
              first | done | (with_reducible rfl)
            try simp only [Act.put, List.setIfInBounds_toArray, List.set_cons_zero, List.set_cons_succ]
            refine hTake (i := 47) (v := ?v47_101) rfl (by kernel_rfl) (by kernel_rfl) (by kernel_rfl) (fun _ _ _ h => h) (Or.inl ⟨by rfl, ?hy47_101⟩) hS7 ?rest47_101
            case hy47_101 =>
              intro W hSw
              (try dsimp only at hSw)
              go_simp
              first | done | (with_reducible rfl)
            try simp only [Act.put, List.setIfInBounds_toArray, List.set_cons_zero, List.set_cons_succ]
            refine hTake (i := 48) (v := ?v48_102) rfl (by kernel_rfl) (by kernel_rfl) (by kernel_rfl) (fun _ _ _ h => h) (Or.inl ⟨by rfl, ?hy48_102⟩) hS7 ?rest48_102
            case hy48_102 =>
              intro W hSw
              (try dsimp only at hSw)
              go_simp
              first | done | (with_reducible rfl)
            try simp only [Act.put, List.setIfInBounds_toArray, List.set_cons_zero, List.set_cons_succ]
            refine hTake (i := 49) (v := ?v49_103) rfl (by kernel_rfl) (by kernel_rfl) (by kernel_rfl) (fun _ _ _ h => h) (Or.inl ⟨by rfl, ?hy49_103⟩) hS7 ?rest49_103
            case hy49_103 =>
              intro W hSw
              (try dsimp only at hSw)
              go_simp
              first | done | (with_reducible rfl)
            try simp only [Act.put, List.setIfInBounds_toArray, List.set_cons_zero, List.set_cons_succ]
            refine hTake (i := 50) (v := ?v50_104) rfl (by kernel_rfl) (by kernel_rfl) (by kernel_rfl) (fun _ _ _ h => h) (Or.inl ⟨by rfl, ?hy50_104⟩) hS7 ?rest50_104
            case hy50_104 =>
              intro W hSw
              (try dsimp only at hSw)
              go_simp
              first | done | (with_reducible rfl)
            try simp only [Act.put, List.setIfInBounds_toArray, List.set_cons_zero, List.set_cons_succ]
            refine hTake (i := 52) (v := ?v52_105) rfl (by kernel_rfl) (by kernel_rfl) (by kernel_rfl) (fun _ _ _ h => h) (Or.inl ⟨by rfl, ?hy52_105⟩) hS7 ?rest52_105
            case hy52_105 =>
              intro W hSw
              (try dsimp only at hSw)
              go_simp
              first | done | (with_reducible rfl)
            try simp only [Act.put, List.setIfInBounds_toArray, List.set_cons_zero, List.set_cons_succ]
            refine wpAnyH_ready (rs := [51]) (by kernel_rfl) (by simp) ?_
            refine hStep (i := 51) rfl (fun K hK => ?_) AllReadyH.nil
            go_simp; go_at_call 18; refine (KCs.out _ BB7).mono ?_; rintro e v8 ⟨rfl, hb⟩; have BB8 := Below.then BB7 hb; clear hb; try go_wp2_with fail
            refine hK.out _ _ ?_ (fun hS8 => ?_)
            · (try dsimp only); exact KP.out _ BB8
            clear hK K
            try simp only [Act.put, List.setIfInBounds_toArray, List.set_cons_zero, List.set_cons_succ]
            refine hTake (i := 53) (v := ?v53_106) rfl (by kernel_rfl) (by kernel_rfl) (by kernel_rfl) (fun _ _ _ h => h) (Or.inl ⟨by rfl, ?hy53_106⟩) hS8 ?rest53_106
            case hy53_106 =>
              intro W hSw
              (try dsimp only at hSw)
              go_simp
              first | done | (with_reducible rfl)
            try simp only [Act.put, List.setIfInBounds_toArray, List.set_cons_zero, List.set_cons_succ]
            refine hTake (i := 54) (v := ?v54_107) rfl (by kernel_rfl) (by kernel_rfl) (by kernel_rfl) (fun _ _ _ h => h) (Or.inl ⟨by rfl, ?hy54_107⟩) hS8 ?rest54_107
            case hy54_107 =>
              intro W hSw
              (try dsimp only at hSw)
              go_simp
              first | done | (with_reducible rfl)
            try simp only [Act.put, List.setIfInBounds_toArray, List.set_cons_zero, List.set_cons_succ]
            refine hTake (i := 55) (v := ?v55_108) rfl (by kernel_rfl) (by kernel_rfl) (by kernel_rfl) (fun _ _ _ h => h) (Or.inl ⟨by rfl, ?hy55_108⟩) hS8 ?rest55_108
            case hy55_108 =>
              intro W hSw
              (try dsimp only at hSw)
              go_simp
              first | done | (with_reducible rfl)
            try simp only [Act.put, List.setIfInBounds_toArray, List.set_cons_zero, List.set_cons_succ]
            refine hTake (i := 56) (v := ?v56_109) rfl (by kernel_rfl) (by kernel_rfl) (by kernel_rfl) (fun _ _ _ h => h) (Or.inl ⟨by rfl, ?hy56_109⟩) hS8 ?rest56_109
            case hy56_109 =>
              intro W hSw
              (try dsimp only at hSw)
              go_simp
              first | done | (with_reducible rfl)
            try simp only [Act.put, List.setIfInBounds_toArray, List.set_cons_zero, List.set_cons_succ]
            refine hTake (i := 57) (v := ?v57_110) rfl (by kernel_rfl) (by kernel_rfl) (by kernel_rfl) (fun _ _ _ h => h) (Or.inl ⟨by rfl, ?hy57_110⟩) hS8 ?rest57_110
            case hy57_110 =>
              intro W hSw
              (try dsimp only at hSw)
              go_simp
              first | done | (with_reducible rfl)
            try simp only [Act.put, List.setIfInBounds_toArray, List.set_cons_zero, List.set_cons_succ]
            refine hTake (i := 58) (v := ?v58_111) rfl (by kernel_rfl) (by kernel_rfl) (by kernel_rfl) (fun _ _ _ h => h) (Or.inl ⟨by rfl, ?hy58_111⟩) hS8 ?rest58_111
            case hy58_111 =>
              intro W hSw
              (try dsimp only at hSw)
              go_simp
              first | done | (with_reducible rfl)
            try simp only [Act.put, List.setIfInBounds_toArray, List.set_cons_zero, List.set_cons_succ]
            refine hTake (i := 59) (v := ?v59_112) rfl (by kernel_rfl) (by kernel_rfl) (by kernel_rfl) (fun _ _ _ h => h) (Or.inl ⟨by rfl, ?hy59_112⟩) hS8 ?rest59_112
            case hy59_112 =>
              intro W hSw
              (try dsimp only at hSw)
              go_simp
              first | done | (with_reducible rfl)
            try simp only [Act.put, List.setIfInBounds_toArray, List.set_cons_zero, List.set_cons_succ]
            refine hTake (i := 60) (v := ?v60_113) rfl (by kernel_rfl) (by kernel_rfl) (by kernel_rfl) (fun _ _ _ h => h) (Or.inl ⟨by rfl, ?hy60_113⟩) hS8 ?rest60_113
            case hy60_113 =>
              intro W hSw
              (try dsimp only at hSw)
              go_simp
              first | done | (with_reducible rfl)
            try simp only [Act.put, List.setIfInBounds_toArray, List.set_cons_zero, List.set_cons_succ]
            refine hTake (i := 61) (v := ?v61_114) rfl (by kernel_rfl) (by kernel_rfl) (by kernel_rfl) (fun _ _ _ h => h) (Or.inl ⟨by rfl, ?hy61_114⟩) hS8 ?rest61_114
            case hy61_114 =>
              intro W hSw
              (try dsimp only at hSw)
              go_simp
              first | done | (with_reducible rfl)
            try simp only [Act.put, List.setIfInBounds_toArray, List.set_cons_zero, List.set_cons_succ]
            refine wpAnyH_ready (rs := [62]) (by kernel_rfl) (by simp) ?_
            refine hStep (i := 62) rfl (fun K hK => ?_) AllReadyH.nil
            go_simp; go_at_call 6; refine (K8s.out _ BB8).mono ?_; rintro e v9 ⟨rfl, hb⟩; have BB9 := Below.then BB8 hb; clear hb; try go_wp2_with fail
            refine hK.out _ _ ?_ (fun hS9 => ?_)
            · (try dsimp only); exact KP.out _ BB9
            clear hK K
            try simp only [Act.put, List.setIfInBounds_toArray, List.set_cons_zero, List.set_cons_succ]
            refine hTake (i := 63) (v := ?v63_115) rfl (by kernel_rfl) (by kernel_rfl) (by kernel_rfl) (fun _ _ _ h => h) (Or.inl ⟨by rfl, ?hy63_115⟩) hS9 ?rest63_115
            case hy63_115 =>
              intro W hSw
              (try dsimp only at hSw)
              go_simp
              first | done | (with_reducible rfl)
            try simp only [Act.put, List.setIfInBounds_toArray, List.set_cons_zero, List.set_cons_succ]
            refine hTake (i := 64) (v := ?v64_116) rfl (by kernel_rfl) (by kernel_rfl) (by kernel_rfl) (fun _ _ _ h => h) (Or.inl ⟨by rfl, ?hy64_116⟩) hS9 ?rest64_116
            case hy64_116 =>
              intro W hSw
              (try dsimp only at hSw)
              go_simp
              first | done | (with_reducible rfl)
            try simp only [Act.put, List.setIfInBounds_toArray, List.set_cons_zero, List.set_cons_succ]
            refine wpAnyH_ready (rs := [65]) (by kernel_rfl) (by simp) ?_
            refine hStep (i := 65) rfl (fun K hK => ?_) AllReadyH.nil
            go_simp; go_at_call 24; refine (K9s.out _ BB9).mono ?_; rintro e v10 ⟨rfl, hb⟩; have BB10 := Below.then BB9 hb; clear hb; try go_wp2_with fail
            refine hK.out _ _ ?_ (fun hS10 => ?_)
            · (try dsimp only); exact KP.out _ BB10
            clear hK K
            try simp only [Act.put, List.setIfInBounds_toArray, List.set_cons_zero, List.set_cons_succ]
            refine hTake (i := 66) (v := ?v66_117) rfl (by kernel_rfl) (by kernel_rfl) (by kernel_rfl) (fun _ _ _ h => h) (Or.inl ⟨by rfl, ?hy66_117⟩) hS10 ?rest66_117
            case hy66_117 =>
              intro W hSw
              (try dsimp only at hSw)
              go_simp
              first | done | (with_reducible rfl)
            try simp only [Act.put, List.setIfInBounds_toArray, List.set_cons_zero, List.set_cons_succ]
            refine hTake (i := 67) (v := ?v67_118) rfl (by kernel_rfl) (by kernel_rfl) (by kernel_rfl) (fun _ _ _ h => h) (Or.inl ⟨by rfl, ?hy67_118⟩) hS10 ?rest67_118
            case hy67_118 =>
              intro W hSw
              (try dsimp only at hSw)
              go_simp
              first | done | (with_reducible rfl)
            try simp only [Act.put, List.setIfInBounds_toArray, List.set_cons_zero, List.set_cons_succ]
            refine hTake (i := 68) (v := ?v68_119) rfl (by kernel_rfl) (by kernel_rfl) (by kernel_rfl) (fun _ _ _ h => h) (Or.inl ⟨by rfl, ?hy68_119⟩) hS10 ?rest68_119
            case hy68_119 =>
              intro W hSw
              (try dsimp only at hSw)
              go_simp
              first | done | (with_reducible rfl)
            try simp only [Act.put, List.setIfInBounds_toArray, List.set_cons_zero, List.set_cons_succ]
            refine wpAnyH_done (by kernel_rfl) ?_ _
            have HZ := Lib.hid (Below.then HB52.out BB10)
            go_wp2
            go_ret
            exact ⟨rfl, HZ.out⟩
end Go.Proofs.YthoodjjjklbggaaDoor

