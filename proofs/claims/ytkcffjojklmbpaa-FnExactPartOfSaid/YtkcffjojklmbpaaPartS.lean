/- FnExactPartOf: spec.PartOf. -/
import Derived.Test.YtkcffjojklmbpaaPartO
import Derived.Test.YtkcffjojklmbpaaBeat
namespace Go.Proofs.Ytkcffjojklmbpaa
open Go.RowKit Go.Sort
set_option maxRecDepth 100000
theorem beqNat' (x b : Nat) : ((x : Int) == (b : Int)) = (x == b) := by rw [Bool.eq_iff_iff, beq_iff_eq, beq_iff_eq]; omega
theorem topF_step (xs : List Int) (S j : Nat) : setOf (fun a => S.testBit a && reachN xs a == S) (j + 1) = setOf (fun a => S.testBit a && reachN xs a == S) j + if (S.testBit j && reachN xs j == S) = true then 2 ^ j else 0 := rfl
set_option maxHeartbeats 4000000 in
theorem strongParts_any (n : Nat) (sl : Value) (xs : List Int) (hp : tourP n xs) (w : World) (h : Rd w sl xs) :
    Calls Try.prog 76 #[.agg #[.int .i64 n, sl]] w fun e w' => ∃ v', e = .returned v' ∧ Own w' w.heap.size v' (nI (partsN xs (2 ^ xs.length - 1))) ∧ (partsN xs (2 ^ xs.length - 1)).length ≤ 256 ∧ Below w.heap.size w w' := by
  have hs := hp.1
  have hsl := hp.2.1
  have HR := Lib.hid h
  have HP := Lib.hid hp
  have q0 := tourB_true.2 hp
  have hn : xs.length = n := by omega
  have hn8 : 1 ≤ n ∧ n ≤ 8 := by omega
  have hp8 := pow_le hn8.2
  have HRF := Lib.hid (fun a (ha : a < n) => (reach_facts hp (a := a) (by omega)).2.2.2)
  have HPS := Lib.hid (fun S (hS : S < 2 ^ n) (hc : clo xs S) h0 => partsN_step hp (S := S) (by rw [hn]; exact hS) hc h0)
  have HRL := Lib.hid (fun S (hS : S < 2 ^ n) (hc : clo xs S) h0 => rest_lt hp (S := S) (by rw [hn]; exact hS) hc h0)
  have HRC := Lib.hid (fun S (hS : S < 2 ^ n) (hc : clo xs S) => rest_clo hp (S := S) (by rw [hn]; exact hS) hc)
  have HCF := Lib.hid (clo_full hp)
  have HN := Lib.hid hn
  clear h hp
  rw [HN.out] at HRF HPS HRL HRC HCF
  obtain ⟨A, c, rfl, -, -, -⟩ := HR.out
  generalize hnn : xs.length = n' at *
  obtain rfl : n = n' := hn.symm
  have HNN := Lib.hid hnn
  clear hnn
  have hpos := Nat.two_pow_pos n
  go_enter Try.func76, Try.ntmps76
  go_wp2_with fail
  have b0 := below_alloc1 w (.cells #[.int .i64 n, .slice A n c] 68)
  have x0 := TBox.new w n (.slice A n c) 68
  generalize w.alloc (.cells #[.int .i64 n, .slice A n c] 68) = w0 at *
  have HX0 := Lib.hid x0
  have HB0 := Lib.hid b0
  clear x0 b0
  have y0_0 := HX0.out.1
  have y1_0 := HX0.out.2
  go_wp2_with fail
  refine (specTourOk _ _ xs _ (HR.out.below HB0.out)).mono ?_
  rintro e w1 ⟨rfl, hb1⟩
  rw [q0]
  have HB1 := Lib.hid (Below.then HB0.out hb1)
  have HX1 := Lib.hid (HX0.out.below hb1)
  clear hb1 HB0 HX0 y0_0 y1_0 q0
  have HO1 := Lib.hid (show Own (w1.alloc (.cells #[] 3)) w1.heap.size (.slice (some ⟨w1.heap.size, 0, none⟩) 0 0) (nI []) from Own.lit w1 w1.heap.size [] (Nat.le_refl _) (by simp))
  have HX2 := Lib.hid (HX1.out.below (below_alloc1 w1 (.cells #[] 3)))
  have y0 := HX2.out.1
  have y1 := HX2.out.2
  have y0' := HX1.out.1
  have y1' := HX1.out.2
  have hsz1 : w1.heap.size ≤ (w1.alloc (.cells #[] 3)).heap.size := by simp
  go_wp2_with fail
  refine (l02All_any n _ _ hn8.2).mono ?_
  rintro e w2 ⟨rfl, hb2⟩
  have HO2 := Lib.hid (HO1.out.below hb2)
  have HB2 := Lib.hid (Below.then (below_alloc1 w1 (.cells #[] 3)) hb2)
  clear hb2 y0 y1 y0' y1'
  go_wp2
  go_loopw [3, 4] (fun v l wr => ∃ (S : Nat) (L : List Nat), l = .int .i64 S ∧ S < 2 ^ n ∧ Hid (clo xs S) ∧ Hid (L ++ partsN xs S = partsN xs (2 ^ n - 1)) ∧ L.length + S ≤ 255 ∧ Hid (Own wr w1.heap.size v (nI L)) ∧ Hid (Below w1.heap.size w1 wr)) (fun _ l _ => (intOf l).toNat)
  case atStart => exact ⟨2 ^ n - 1, [], rfl, by omega, HCF.out, rfl, by simp; omega, HO2.out, HB2.out⟩
  case round =>
    obtain ⟨wo, rfl⟩ : ∃ x, x = wr := ⟨_, rfl⟩
    obtain ⟨S, L, rfl, hS, HC, HL, hLS, HO, HB⟩ := hrel
    have HXo := Lib.hid (HX1.out.below HB.out)
    have y1 := HXo.out.2
    by_cases h0 : 0 < S
    · have hne : S ≠ 0 := by omega
      have HPSS := Lib.hid (HPS.out S hS HC.out hne)
      have HRLS := Lib.hid (HRL.out S hS HC.out hne)
      have HRCS := Lib.hid (HRC.out S hS HC.out)
      have hT8 : topF xs n S < 256 := setOf_small _ hn8.2
      have HLS := Lib.hid (less_sub (S := S) (T := topF xs n S) (by omega) hT8 (top_sub xs n S))
      clear hne
      go_wp2
      clear y1
      go_loopw [5, 18] (fun f i wr => ∃ j : Nat, j ≤ n ∧ i = .int .i64 j ∧ f = .int .i64 (setOf (fun a => S.testBit a && reachN xs a == S) j : Nat) ∧ Hid (Below wo.heap.size wo wr)) (fun _ i _ => n - (intOf i).toNat)
      case atStart => exact ⟨0, by omega, rfl, rfl, Below.refl _ _⟩
      case round =>
        obtain ⟨wi, rfl⟩ : ∃ x, x = wr := ⟨_, rfl⟩
        obtain ⟨j, hj, rfl, rfl, HBi⟩ := hrel
        by_cases hjn : j < n
        · have hbt := bit_test S j
          have HST := Lib.hid (topF_step xs S j)
          have hs8 := setOf_small (fun a => S.testBit a && reachN xs a == S) (show j ≤ 8 by omega)
          have hadd := add_shl (setOf (fun a => S.testBit a && reachN xs a == S) j) j (by omega) (by omega)
          have HXi := Lib.hid (HXo.out.below HBi.out)
          generalize setOf (fun a => S.testBit a && reachN xs a == S) j = F at *
          rcases q : S.testBit j with _ | _
          · rw [q] at hbt HST
            go_wp2
            go_roundw
            case rel => exact ⟨j + 1, by omega, by go_num, by rw [HST.out]; rfl, HBi.out⟩
            case measure => simp [intOf]; omega
          · rw [q] at hbt HST
            have y0 := HXi.out.1
            have y1 := HXi.out.2
            go_wp2_with fail
            refine (l05Reach_any n _ xs j _ (HR.out.below (Below.then HB1.out (Below.then HB.out HBi.out))) HP.out (by rw [HNN.out]; exact hjn)).mono ?_
            rintro e w5 ⟨rfl, hb5⟩
            have HB5 := Lib.hid (Below.then HBi.out hb5)
            clear hb5 y0 y1
            have hbn := beqNat' (reachN xs j) S
            rcases qr : (reachN xs j == S) with _ | _
            · rw [qr] at HST hbn
              generalize reachN xs j = R at *
              go_wp2
              go_roundw
              case rel => exact ⟨j + 1, by omega, by go_num, by rw [HST.out]; rfl, HB5.out⟩
              case measure => simp [intOf]; omega
            · rw [qr] at HST hbn
              generalize reachN xs j = R at *
              go_wp2
              go_roundw
              case rel => exact ⟨j + 1, by omega, by go_num, by rw [HST.out, hadd]; rfl, HB5.out⟩
              case measure => simp [intOf]; omega
        · obtain rfl : n = j := by omega
          have HF : Hid (setOf (fun a => S.testBit a && reachN xs a == S) n = topF xs n S) := rfl
          rw [HF.out]
          have hls := HLS.out
          have hrl := HRLS.out
          have hsub : (S : Int) - (topF xs n S : Nat) = (less S (topF xs n S) : Nat) := by omega
          have HBw := Lib.hid (Below.then HB.out HBi.out)
          have HOi := Lib.hid (HO.out.below HBi.out)
          have hszi := HBw.out.size
          have ho := HOi.out
          have hln : (nI L).length = L.length := nI_len L
          have HNL : Hid ((L ++ [topF xs n S]) ++ partsN xs (less S (topF xs n S)) = partsN xs (2 ^ n - 1)) := by
            unfold Hid
            rw [← HL.out, HPSS.out, List.append_assoc]
            rfl
          generalize less S (topF xs n S) = S2 at *
          generalize topF xs n S = T at *
          go_wp2_with (at_builtin; refine wp_append1 wi rfl (.tmp 38) (.tmp 40) rfl w1.heap.size _ (nI L) (T : Int) (by simp [Act.eval]) ho (by simp [Act.eval]) (by omega) (by exact hszi) ?_; intro v' w7 hown1 hg1; have HO7 := Lib.hid hown1; have HB7 := Lib.hid (HBw.out.grown hg1 hszi (fun k hk => (ho.lt k hk).1)); clear hown1 hg1)
          go_roundw
          case rel => exact ⟨S2, L ++ [T], by first | rfl | (rw [hsub]), by omega, HRCS.out, HNL.out, by rw [List.length_append, List.length_singleton]; omega, by rw [nI_snoc]; exact HO7.out, HB7.out⟩
          case measure => simp [intOf] <;> omega
    · obtain rfl : S = 0 := by omega
      have HLE : Hid (L = partsN xs (2 ^ n - 1)) := by have := HL.out; rw [partsN_zero, List.append_nil] at this; exact this
      go_wp2
      go_ret
      exact ⟨_, rfl, by rw [← HLE.out]; exact HO.out.mono HB1.out.size, by rw [← HLE.out]; omega, Below.then HB1.out HB.out⟩
set_option maxHeartbeats 2000000 in
theorem specPartOf (s : Int) (sl : Value) (xs : List Int) (a : Int) (w : World) (h : Rd w sl xs) :
    Calls Try.prog 42 #[.agg #[.int .i64 s, sl], .int .i64 a] w fun e w' => e = .returned (.int .i64 (partI s xs a)) ∧ Below w.heap.size w w' := by
  have HR := Lib.hid h
  obtain ⟨A, c, rfl, -, -, -⟩ := h
  rcases q0 : (tourB s xs && inB a 0 (s - 1)) with _ | _
  case false =>
    go_enter Try.func42, Try.ntmps42
    go_wp2_with fail
    have b0 := below_alloc1 w (.cells #[.int .i64 s, .slice A xs.length c] 68)
    have x0 := TBox.new w s (.slice A xs.length c) 68
    generalize w.alloc (.cells #[.int .i64 s, .slice A xs.length c] 68) = w0 at *
    have HX0 := Lib.hid x0
    have HB0 := Lib.hid b0
    clear x0 b0
    have y0_0 := HX0.out.1
    have y1_0 := HX0.out.2
    go_wp2_with fail
    refine (l02Player_any s _ xs a _ (HR.out.below HB0.out)).mono ?_
    rintro e w1 ⟨rfl, hb⟩
    have HX1 := Lib.hid (HX0.out.below hb)
    have HB1 := Lib.hid (Below.then HB0.out hb)
    clear hb HX0 HB0 y0_0 y1_0
    have y0_1 := HX1.out.1
    have y1_1 := HX1.out.2
    rw [q0]
    go_wp2
    go_ret
    exact ⟨ret_int (by simp [partI, q0]), HB1.out⟩
  have q0' := q0
  rw [Bool.and_eq_true] at q0'
  have hp := tourB_true.1 q0'.1
  have hs := hp.1
  have hsl := hp.2.1
  have ha := inB_true.1 q0'.2
  go_enter Try.func42, Try.ntmps42
  go_wp2_with fail
  have b0 := below_alloc1 w (.cells #[.int .i64 s, .slice A xs.length c] 68)
  have x0 := TBox.new w s (.slice A xs.length c) 68
  generalize w.alloc (.cells #[.int .i64 s, .slice A xs.length c] 68) = w0 at *
  have HX0 := Lib.hid x0
  have HB0 := Lib.hid b0
  clear x0 b0
  have y0_0 := HX0.out.1
  have y1_0 := HX0.out.2
  go_wp2_with fail
  refine (l02Player_any s _ xs a _ (HR.out.below HB0.out)).mono ?_
  rintro e w1 ⟨rfl, hb⟩
  have HX1 := Lib.hid (HX0.out.below hb)
  have HB1 := Lib.hid (Below.then HB0.out hb)
  clear hb HX0 HB0 y0_0 y1_0
  have y0_1 := HX1.out.1
  have y1_1 := HX1.out.2
  rw [q0]
  obtain ⟨i, rfl⟩ := Int.eq_ofNat_of_zero_le ha.1
  have hO : Hid (partI s xs i = findI (partP i) (nI (partsN xs (2 ^ xs.length - 1)))) := by unfold Hid partI; rw [q0, Int.toNat_natCast]; rfl
  obtain ⟨n, rfl⟩ := Int.eq_ofNat_of_zero_le (show 0 ≤ s by omega)
  have HP := Lib.hid hp
  have hi8 : i < 8 := by omega
  clear q0 q0' hp
  go_wp2_with fail
  refine (strongParts_any n _ xs HP.out w1 (HR.out.below HB1.out)).mono ?_
  rintro e w2 ⟨v2, rfl, ho2, hlen, hb2⟩
  have HB2 := Lib.hid (Below.then HB1.out hb2)
  obtain ⟨A2, c2, rfl, hl2, hm2, hc2⟩ := ho2.rd
  unfold maxLen at hm2
  rw [nI_len] at hl2 hc2
  rw [nI_len]
  have HC2 := Lib.hid hc2
  clear hb2 ho2 hc2 y0_1 y1_1
  generalize partsN xs (2 ^ xs.length - 1) = L at *
  generalize hm : L.length = m at *
  have HM := Lib.hid hm
  clear hm
  go_wp2
  go_loop [14] (fun j => ∃ k : Nat, k ≤ m ∧ j = .int .i64 k ∧ Hid (∀ x ∈ (nI L).take k, partP i x = false)) (fun j => m - (intOf j).toNat)
  case atStart => exact ⟨0, by omega, rfl, by simp [Hid]⟩
  case round =>
    obtain ⟨k, hk, rfl, HF⟩ := hrel
    by_cases hkm : k < m
    · obtain ⟨g, off, rfl, hg, hx⟩ := HC2.out (by omega)
      have hxk := hx k hkm
      have hkl : k < L.length := by rw [HM.out]; exact hkm
      rw [nI_getD hkl] at hxk
      have hbt := bit_test (L.getD k 0) i
      have hpk : partP i ((nI L)[k]?.getD 0) = (L.getD k 0).testBit i := by
        rw [← List.getD_eq_getElem?_getD, nI_getD hkl]; unfold partP; rw [Int.toNat_natCast]
      have HPK := Lib.hid hpk
      clear hx hpk
      generalize L.getD k 0 = S at *
      rcases q : S.testBit i with _ | _
      · rw [q] at hbt HPK
        go_wp2
        go_round
        case rel => exact ⟨k + 1, by omega, by go_num, findI_step (by rw [nI_len]; exact hkl) HPK.out HF.out⟩
        case measure => simp [intOf]; omega
      · rw [q] at hbt HPK
        have HR2 : Hid (findI (partP i) (nI L) = (k : Int)) := findI_hit (by rw [nI_len]; exact hkl) HPK.out HF.out
        go_wp2
        go_ret
        exact ⟨ret_int (by rw [hO.out, HR2.out]), HB2.out⟩
    · obtain rfl : m = k := by omega
      have HR2 : Hid (findI (partP i) (nI L) = -1) := findI_miss (by
        have := HF.out
        rwa [List.take_of_length_le (by rw [nI_len, HM.out]; exact Nat.le_refl _)] at this)
      go_wp2
      go_ret
      exact ⟨ret_int (by rw [hO.out, HR2.out]), HB2.out⟩
end Go.Proofs.Ytkcffjojklmbpaa
