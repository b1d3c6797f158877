/- FnExactWayBetween: spec.WayBetween. -/
import Derived.Test.YtkcffjojklmbpabWBs
import Derived.Test.YtkcffjojklmbpabWBi
namespace Go.Proofs.Ytkcffjojklmbpab
open Go.RowKit Go.Sort
set_option maxRecDepth 100000
theorem find_here {l : List Nat} {p : Nat → Bool} {j : Nat} (hj : j < l.length) (h0 : (l.take j).find? p = none) : (p (l.getD j 0) = true → l.find? p = some (l.getD j 0)) ∧ (p (l.getD j 0) = false → (l.take (j + 1)).find? p = none) := by
  have e : l = l.take j ++ l.getD j 0 :: l.drop (j + 1) := by
    rw [getD_nat hj, ← List.drop_eq_getElem_cons hj, List.take_append_drop]
  refine ⟨fun h => ?_, fun h => ?_⟩
  · have h1 : (l.take j ++ l.getD j 0 :: l.drop (j + 1)).find? p = some (l.getD j 0) := by rw [List.find?_append, h0, List.find?_cons, h]; rfl
    rwa [← e] at h1
  · rw [take_snocN' hj, List.find?_append, h0, List.find?_cons, h]; rfl
set_option maxHeartbeats 4000000 in
theorem specWB (s : Int) (sl : Value) (xs : List Int) (a b : Int) (w : World) (h : Rd w sl xs) :
    Calls Try.prog 18 #[.agg #[.int .i64 s, sl], .int .i64 a, .int .i64 b] w fun e w' => ∃ v', e = .returned (.tuple #[v', .bool (wbO s xs a b).isSome]) ∧ Own w' w.heap.size v' (wbL s xs a b) ∧ Below w.heap.size w w' := by
  have HR := Lib.hid h
  obtain ⟨A, c, rfl, -, -, -⟩ := h
  rcases q0 : (tourB s xs && inB a 0 (s - 1)) with _ | _
  case false =>
    go_enter Try.func18, Try.ntmps18
    go_wp2_with fail
    have b0 := below_alloc1 w (.cells #[.int .i64 s, .slice A xs.length c] 28)
    have x0 := TBox.new w s (.slice A xs.length c) 28
    generalize w.alloc (.cells #[.int .i64 s, .slice A xs.length c] 28) = w0 at *
    have HX0 := Lib.hid x0
    have HB0 := Lib.hid b0
    clear x0 b0
    have y0_0 := HX0.out.1
    have y1_0 := HX0.out.2
    go_wp2_with fail
    refine (l02Player_any s _ xs a _ (HR.out.below HB0.out)).mono ?_
    rintro e w1 ⟨rfl, hb⟩
    have HX1 := Lib.hid (HX0.out.below hb)
    have HB1 := Lib.hid (Below.then HB0.out hb)
    clear hb HX0 HB0 y0_0 y1_0
    have y0_1 := HX1.out.1
    have y1_1 := HX1.out.2
    rw [q0]
    go_wp2
    have hno := wbO_no (show wbOk s xs a b = false by first | (simp [wbOk, q0]; done) | (simp [wbOk, q1]; done))
    go_ret2
    exact ⟨.slice none 0 0, by rw [hno]; rfl, by rw [wbL, hno]; exact Own.nil_ _ _, HB1.out⟩
  have q0' := q0
  rw [Bool.and_eq_true] at q0'
  have hp := tourB_true.1 q0'.1
  have hs := hp.1
  have hsl := hp.2.1
  have ha := inB_true.1 q0'.2
  rcases q1 : inB b 0 (s - 1) with _ | _
  case false =>
    go_enter Try.func18, Try.ntmps18
    go_wp2_with fail
    have b0 := below_alloc1 w (.cells #[.int .i64 s, .slice A xs.length c] 28)
    have x0 := TBox.new w s (.slice A xs.length c) 28
    generalize w.alloc (.cells #[.int .i64 s, .slice A xs.length c] 28) = w0 at *
    have HX0 := Lib.hid x0
    have HB0 := Lib.hid b0
    clear x0 b0
    have y0_0 := HX0.out.1
    have y1_0 := HX0.out.2
    go_wp2_with fail
    refine (l02Player_any s _ xs a _ (HR.out.below HB0.out)).mono ?_
    rintro e w1 ⟨rfl, hb⟩
    have HX1 := Lib.hid (HX0.out.below hb)
    have HB1 := Lib.hid (Below.then HB0.out hb)
    clear hb HX0 HB0 y0_0 y1_0
    have y0_1 := HX1.out.1
    have y1_1 := HX1.out.2
    rw [q0]
    go_wp2_with fail
    refine (l01In_any _ _ _ _).mono ?_
    rintro e wz ⟨rfl, rfl⟩
    rw [q1]
    go_wp2
    have hno := wbO_no (show wbOk s xs a b = false by first | (simp [wbOk, q0]; done) | (simp [wbOk, q1]; done))
    go_ret2
    exact ⟨.slice none 0 0, by rw [hno]; rfl, by rw [wbL, hno]; exact Own.nil_ _ _, HB1.out⟩
  have hbb := inB_true.1 q1
  go_enter Try.func18, Try.ntmps18
  go_wp2_with fail
  have b0 := below_alloc1 w (.cells #[.int .i64 s, .slice A xs.length c] 28)
  have x0 := TBox.new w s (.slice A xs.length c) 28
  generalize w.alloc (.cells #[.int .i64 s, .slice A xs.length c] 28) = w0 at *
  have HX0 := Lib.hid x0
  have HB0 := Lib.hid b0
  clear x0 b0
  have y0_0 := HX0.out.1
  have y1_0 := HX0.out.2
  go_wp2_with fail
  refine (l02Player_any s _ xs a _ (HR.out.below HB0.out)).mono ?_
  rintro e w1 ⟨rfl, hb⟩
  have HX1 := Lib.hid (HX0.out.below hb)
  have HB1 := Lib.hid (Below.then HB0.out hb)
  clear hb HX0 HB0 y0_0 y1_0
  have y0_1 := HX1.out.1
  have y1_1 := HX1.out.2
  rw [q0]
  go_wp2_with fail
  refine (l01In_any _ _ _ _).mono ?_
  rintro e wz ⟨rfl, rfl⟩
  rw [q1]
  obtain ⟨i, rfl⟩ := Int.eq_ofNat_of_zero_le ha.1
  obtain ⟨t, rfl⟩ := Int.eq_ofNat_of_zero_le hbb.1
  have HOK := Lib.hid (show wbOk s xs i t = true by simp [wbOk, q0', q1])
  obtain ⟨n, rfl⟩ := Int.eq_ofNat_of_zero_le (show 0 ≤ s by omega)
  have hwb : wbO n xs i t = if lv xs xs.length t xs.length i < 0 then none else some (i :: gw xs xs.length t (lv xs xs.length t xs.length i).toNat i) := by
    unfold wbO; rw [if_pos HOK.out, Int.toNat_natCast, Int.toNat_natCast]
  have HP := Lib.hid hp
  obtain ⟨gt, off, ct, e, hmt, hgt, hxt⟩ := tour_cells HR.out hp
  have HW := Lib.hid (fun j hj => (tour_wins hp (a := j) hj).2.1)
  have hn : xs.length = n := by omega
  injection e with e1 e2 e3
  subst e1 e3
  clear e2
  have HXT := Lib.hid hxt
  rw [hn] at hwb
  have HWB := Lib.hid hwb
  have hin : i < n := by omega
  have htn : t < n := by omega
  have hn8 : 1 ≤ n ∧ n ≤ 8 := by omega
  have hg0 := World.block_lt_of_cell? _ _ HX1.out.1
  rw [Int.toNat_natCast] at HW
  unfold maxLen at hmt
  clear q0 q0' q1 hp hs hsl hbb ha hxt hwb
  generalize hnn : xs.length = n' at *
  obtain rfl : n = n' := hn.symm
  have HN := Lib.hid hnn
  clear hnn
  go_wp2_with fail
  refine (l06Levels_any n _ xs HP.out t htn _ (HR.out.below HB1.out)).mono ?_
  rintro e w2 ⟨v2, rfl, ho2, hb2⟩
  obtain ⟨g, cg, rfl, hbg, hcg, hncg, hcell, -⟩ := ho2.at_ (n := n) (lvL_len _ _ _ _) (by omega)
  unfold maxLen at hcg
  have hg2 := (ho2.lt g rfl).2
  have HDC : Hid (∀ k, k < n → w2.cell? ⟨g, k, none⟩ = some (.int .i64 (lv xs n t n k))) := fun k hk => by rw [hcell k hk, lvL_at hk]
  have HB2 := Lib.hid (Below.then HB1.out hb2)
  have HX2 := Lib.hid (HX1.out.below hb2)
  have hsz2 := hb2.size
  have hdi := HDC.out i hin
  have hdb := lv_bd xs n t n i
  clear hcell ho2 hb2 HX1 HB1 y0_1 y1_1
  by_cases hneg : lv xs n t n i < 0
  · have hO : Hid (wbO n xs i t = none) := by unfold Hid; rw [HWB.out, if_pos hneg]
    generalize lv xs n t n i = Di at *
    go_wp2
    go_ret2
    exact ⟨.slice none 0 0, by rw [hO.out]; rfl, by rw [wbL, hO.out]; exact Own.nil_ _ _, HB2.out⟩
  · obtain ⟨d0, hd0⟩ := Int.eq_ofNat_of_zero_le (show 0 ≤ lv xs n t n i by omega)
    have hd0n := lv_top hin hd0
    have hO : Hid (wbO n xs i t = some (i :: gw xs n t d0 i)) := by unfold Hid; rw [HWB.out, if_neg hneg, hd0, Int.toNat_natCast]
    rw [hd0] at hdi
    have HD0 := Lib.hid hd0
    clear hneg hdb hd0
    have HOL := Lib.hid (show Own (w2.alloc (.cells #[.int .i64 i] 3)) w2.heap.size (.slice (some ⟨w2.heap.size, 0, none⟩) 1 1) (nI [i]) from Own.lit w2 w2.heap.size [(i : Int)] (Nat.le_refl _) (by simp))
    have HGL := Lib.hid (grown_below (below_alloc1 w2 (.cells #[.int .i64 i] 3)) (none : Option Nat))
    go_wp2
    clear hdi
    go_loopw [1, 9] (fun x v wr => ∃ (cu m : Nat) (L : List Nat), x = .int .i64 cu ∧ cu < n ∧ Hid (lv xs n t n cu = (m : Int)) ∧ m ≤ d0 ∧ L.length = d0 - m + 1 ∧ Hid (L ++ gw xs n t m cu = i :: gw xs n t d0 i) ∧ Hid (Own wr w2.heap.size v (nI L)) ∧ Hid (Below w2.heap.size w2 wr)) (fun x _ _ => (lv xs n t n (intOf x).toNat).toNat)
    case atStart => exact ⟨i, d0, [i], rfl, hin, HD0.out, Nat.le_refl _, by simp, rfl, HOL.out, below_alloc1 _ _⟩
    case round =>
      obtain ⟨wo, rfl⟩ : ∃ x, x = wr := ⟨_, rfl⟩
      obtain ⟨cu, m, L, rfl, hcu, HM, hmd, hLl, HL, HO, HB⟩ := hrel
      have hdc := (HB.out.cell (p := ⟨g, cu, none⟩) hg2).trans (HDC.out cu hcu)
      rw [HM.out] at hdc
      by_cases hm0 : 0 < m
      · obtain ⟨m, rfl⟩ : ∃ p, m = p + 1 := ⟨m - 1, by omega⟩
        obtain ⟨hfind, hnm, hnv⟩ := nxt_find HM.out
        have HXo := Lib.hid (HX2.out.below HB.out)
        have y0 := HXo.out.1
        have y1 := HXo.out.2
        have hwc := ((Below.then HB2.out HB.out).cell (p := ⟨gt, off + cu, none⟩) hgt).trans (HXT.out cu hcu)
        have hW := HW.out cu hcu
        have hm1 : 0 < ((m + 1 : Nat) : Int) := by omega
        have HFD := Lib.hid hfind
        have HNV := Lib.hid hnv
        have hnn := memN_at' hnm
        have HGW : Hid (gw xs n t (m + 1) cu = nxt xs n t m cu :: gw xs n t m (nxt xs n t m cu)) := rfl
        clear hfind hnv hnm
        go_wp2_with fail
        refine (l02List_any (winsN xs cu) n wo hW (by omega)).mono ?_
        rintro e w4 ⟨v4, rfl, ho4, hb4⟩
        obtain ⟨A4, d4, rfl, hd1, hd2, hl4⟩ := memL_cells ho4
        unfold maxLen at hd1
        have HLC := Lib.hid hl4
        have HLT := Lib.hid (fun j (h : j < (memN (winsN xs cu) n).length) => memN_at' (S := winsN xs cu) (n := n) (b := (memN (winsN xs cu) n).getD j 0) (by rw [getD_nat h]; exact List.getElem_mem _))
        have hmn := memN_len (winsN xs cu) n
        have HB4 := Lib.hid (Below.then HB.out hb4)
        have HO4 := Lib.hid (HO.out.below hb4)
        have hdc4 := (hb4.cell (World.block_lt_of_cell? _ _ hdc)).trans hdc
        clear hl4 ho4 hb4 hwc hW y0 y1 hdc
        generalize nxt xs n t m cu = nx at *
        generalize memN (winsN xs cu) n = LL at *
        generalize hmm : LL.length = mm at *
        have HMM := Lib.hid hmm
        clear hmm
        go_wp2
        clear hdc4
        go_loopw [1, 46] (fun x y wr => ∃ j : Nat, j ≤ mm ∧ y = .int .i64 j ∧ x = .int .i64 cu ∧ Hid ((LL.take j).find? (fun c => lv xs n t n c == (m : Int)) = none) ∧ Hid (Below w4.heap.size w4 wr)) (fun _ y _ => mm - (intOf y).toNat)
        case atStart => exact ⟨0, by omega, rfl, rfl, by simp [Hid], Below.refl _ _⟩
        case round =>
          obtain ⟨wi, rfl⟩ : ∃ x, x = wr := ⟨_, rfl⟩
          obtain ⟨j, hj, rfl, rfl, HF, HBi⟩ := hrel
          have HBw := Lib.hid (Below.then HB4.out HBi.out)
          have HOi := Lib.hid (HO4.out.below HBi.out)
          by_cases hjm : j < mm
          · have hjl : j < LL.length := by rw [HMM.out]; exact hjm
            obtain ⟨g3, off3, rfl, hg3, hx3⟩ := HLC.out (by omega)
            have hcj := (HBi.out.cell (p := ⟨g3, off3 + j, none⟩) hg3).trans (hx3 j hjm)
            have hcn := HLT.out j hjm
            have hdu := (HBw.out.cell (p := ⟨g, cu, none⟩) hg2).trans (HDC.out cu hcu)
            rw [HM.out] at hdu
            have hdv := (HBw.out.cell (p := ⟨g, LL.getD j 0, none⟩) hg2).trans (HDC.out _ hcn)
            have HTK := Lib.hid (take_snocN' hjl)
            have hDb := lv_bd xs n t n (LL.getD j 0)
            obtain ⟨e1, he1⟩ : ∃ e, e = lv xs n t n (LL.getD j 0) := ⟨_, rfl⟩
            rw [← he1] at hdv hDb
            have HE1 := Lib.hid he1
            have HFH := Lib.hid (find_here hjl HF.out)
            have HNX : Hid (e1 = (m : Int) → LL.getD j 0 = nx) := fun hem => by
              have h2 := HFH.out.1 (by rw [← HE1.out, hem]; simp)
              have h3 := HFD.out
              rw [h2] at h3
              injection h3
            have HNO : Hid (¬ e1 = (m : Int) → (LL.take (j + 1)).find? (fun c => lv xs n t n c == (m : Int)) = none) := fun hem => HFH.out.2 (by rw [← HE1.out]; simpa using hem)
            have hm2 : wrap64 (((m + 1 : Nat) : Int) - 1) = m := by rw [show ((m + 1 : Nat) : Int) - 1 = m by omega]; exact IntWalk.wrap64_in (m : Int) (by omega)
            have hm3 : IntKind.i64.wrap (((m + 1 : Nat) : Int) - 1) = m := by rw [show ((m + 1 : Nat) : Int) - 1 = m by omega]; rw [IntKind.wrap_i64]; omega
            have hm4 : IntKind.i64.wrap (m : Int) = m := by rw [IntKind.wrap_i64]; omega
            clear he1 hx3 HFH HTK
            generalize LL.getD j 0 = cc at *
            have j1 : (0 : Int) ≤ cc := by omega
            have j2 : (cc : Int) < n := by omega
            have j3 : (0 : Int) ≤ cu := by omega
            have j4 : (cu : Int) < n := by omega
            go_wp2_with fail
            go_region_held3 (fun W => W.cell? ⟨g, cu, none⟩ = some (.int .i64 ((m + 1 : Nat) : Int)) ∧ W.cell? ⟨g, cc, none⟩ = some (.int .i64 e1))
              (first | exact ⟨hdu, hdv⟩)
              (first | fail)
            all_goals
              have HBd := Lib.hid (show Below w4.heap.size w4 wi.drew from HBi.out.drew)
              have HB5 := Lib.hid (show Below w2.heap.size w2 wi.drew from HBw.out.drew)
              have HO5 := Lib.hid (show Own wi.drew w2.heap.size u9 (nI L) from HOi.out)
              by_cases hem : e1 = (m : Int)
              · have HNX2 := Lib.hid (HNX.out hem)
                obtain ⟨V, cv, rfl, -, -, -⟩ := HO5.out.form
                have hemb : (e1 == (m : Int)) = true := by simpa using hem
                have hsz4 := HB5.out.size
                go_wp2_with (at_builtin; refine wp_append1 wi.drew rfl (.tmp 62) (.tmp 64) rfl w2.heap.size _ (nI L) (cc : Int) (by simp [Act.eval]) HO5.out (by simp [Act.eval]) (by rw [nI_len]; omega) (by exact hsz4) ?_; intro v' w7 hown1 hg1; have HO7 := Lib.hid hown1; have HB7 := Lib.hid (HB5.out.grown hg1 hsz4 (fun k hk => (HO5.out.lt k hk).1)); clear hown1 hg1)
                go_roundw
                case rel =>
                  refine ⟨cc, m, L ++ [cc], rfl, hcn, ?_, by omega, by rw [List.length_append, List.length_singleton]; omega, ?_, by rw [nI_snoc]; exact HO7.out, HB7.out⟩
                  · rw [HNX2.out]; exact HNV.out
                  · have := HL.out
                    rw [HGW.out, ← HNX2.out] at this
                    unfold Hid
                    rw [List.append_assoc]
                    exact this
                case measure =>
                  have h1 := HE1.out
                  have h2 := HM.out
                  show (lv xs n t n ((cc : Int)).toNat).toNat < (lv xs n t n ((cu : Int)).toNat).toNat
                  rw [Int.toNat_natCast, Int.toNat_natCast, h2, ← h1, hem]
                  omega
              · have HNO2 := Lib.hid (HNO.out hem)
                have hemb : (e1 == (m : Int)) = false := by simpa using hem
                go_wp2
                go_roundw
                case rel => exact ⟨j + 1, by omega, by go_num, rfl, HNO2.out, HBd.out⟩
                case measure => simp [intOf]; omega
          · obtain rfl : mm = j := by omega
            have hf := HF.out
            rw [List.take_of_length_le (by rw [HMM.out]; exact Nat.le_refl _)] at hf
            have hf2 := HFD.out
            rw [hf] at hf2
            cases hf2
      · obtain rfl : m = 0 := by omega
        have HLe : Hid (L = i :: gw xs n t d0 i) := by have := HL.out; unfold Hid; simpa [gw] using this
        have HBW := Lib.hid (Below.then HB2.out HB.out)
        go_wp2
        go_ret2
        refine ⟨_, by rw [hO.out]; rfl, ?_, HBW.out⟩
        rw [wbL, hO.out, Option.getD_some, ← HLe.out]
        exact HO.out.mono (by have := HB2.out.size; omega)
end Go.Proofs.Ytkcffjojklmbpab
