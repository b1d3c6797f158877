/- Texts put together: LFnWays. -/
import Derived.Test.YtajeledbmnndmaaMWays15
import Derived.Test.YtajeledbmnndmaaMWays13
import Derived.Test.YtajeledbmnndmaaMWays14
import Derived.Deep.RegionHeld3
import Derived.Deep.DeepCutAuto
namespace Go.Proofs.Ytajeledbmnndmaa
open Go.RowKit Go.Sort
set_option maxRecDepth 100000
/-- what stays while the law runs -/
structure WSt (w W : World) (bx n : Nat) (Y : Option Addr) (cy : Nat) (xs : List Int) (v0 : Value) (wg wo cw fg fo fc : Nat) : Prop where
  below : Below w.heap.size w W
  box : TBox W bx n (.slice Y n cy)
  tour : Rd W (.slice Y n cy) xs
  code : BytesV W w.heap.size v0
  way : Rd W (.slice (some ⟨wg, wo, none⟩) n cw) (fwL xs n)
  fst : Rd W (.slice (some ⟨fg, fo, none⟩) n fc) (nI (ffN xs n))
theorem WSt.next {w W W' : World} {bx n : Nat} {Y : Option Addr} {cy : Nat} {xs : List Int} {v0 : Value} {wg wo cw fg fo fc : Nat} (h : WSt w W bx n Y cy xs v0 wg wo cw fg fo fc) (hb : Below W.heap.size W W') : WSt w W' bx n Y cy xs v0 wg wo cw fg fo fc :=
  ⟨Below.then h.below hb, h.box.below hb, h.tour.below hb, h.code.keep (fun p hp => hb.cell (by have := h.below.size; omega)), h.way.below hb, h.fst.below hb⟩
theorem rd_set01w {w : World} {base g : Nat} {A : Option Addr} {n c : Nat} {L : List Int} (h : Own w base (.slice A n c) L) (x : Int) (sl : Value) (hg : g < base) : Rd ((w.setCell ⟨g, 0, none⟩ (.int .i64 x)).setCell ⟨g, 1, none⟩ sl) (.slice A n c) L := by
  have ne : ∀ {W : World}, Own W base (.slice A n c) L → (Value.slice A n c).ownBlock = none ∨ (Value.slice A n c).ownBlock ≠ some g := fun {W} hW => by
    rcases q : (Value.slice A n c).ownBlock with _ | k
    · exact .inl rfl
    · right
      have := (hW.lt k q).1
      intro e; injection e; omega
  have h1 := h.kept (setCell_grown w ⟨g, 0, none⟩ (.int .i64 x)) (ne h)
  exact (h1.kept (setCell_grown _ ⟨g, 1, none⟩ sl) (ne h1)).rd
theorem own_lit1 (w : World) (x : Int) : Own ((w.alloc (.cells #[.int .i64 x] 3)).alloc (.cells #[] 3)) w.heap.size (.slice (some ⟨w.heap.size + 1, 0, none⟩) 0 0) [] := by
  have := (Own.lit (w.alloc (.cells #[.int .i64 x] 3)) (w.heap.size) [] (by simp) (by decide))
  simpa using this
set_option maxHeartbeats 8000000 in
theorem lawFnWays (v0 : Value) (w : World) (h0 : BytesV w w.heap.size v0) :
    Calls Try.prog 7 #[v0] w fun e w' => e = .returned (.bool true) ∧ Below w.heap.size w w' := by
  have HV := Lib.hid h0
  obtain ⟨A0, k0, c0, rfl, hk0, hc0, -⟩ := h0
  unfold maxLen at hc0
  by_cases hn0 : k0 ≤ 1048576
  case neg =>
    have hd0 : decide ((1048576 : Int) < (k0 : Int)) = true := by simp; omega
    go_enter Try.func7, Try.ntmps7
    go_wp2
    go_ret
    exact ⟨rfl, Below.refl _ _⟩
  have hd0 : decide ((1048576 : Int) < (k0 : Int)) = false := by simp; omega
  go_enter Try.func7, Try.ntmps7
  go_wp2_with fail
  refine (makeTour_any w (.slice A0 k0 c0) 0 7 0 7 rfl rfl (by omega) (by omega) (by omega) HV.out).mono ?_
  rintro e w1 ⟨n, sl, xs, rfl, hn7, hp, ho, hb⟩
  obtain ⟨Y, cy, rfl, -, hcy, -⟩ := ho.form
  have HP := Lib.hid hp
  have hn1 : 1 ≤ n := by have := hp.1; omega
  rw [tour_len hp] at *
  have bb := below_alloc1 w1 (.cells #[.int .i64 n, .slice Y n cy] 28)
  obtain ⟨bx, hbx⟩ : ∃ bx, bx = w1.heap.size := ⟨_, rfl⟩
  have HB2 := Lib.hid (Below.then hb bb)
  have HX2 := Lib.hid (show TBox (w1.alloc (.cells #[.int .i64 n, .slice Y n cy] 28)) bx n (.slice Y n cy) by rw [hbx]; exact TBox.new w1 n (.slice Y n cy) 28)
  have HT2 := Lib.hid (ho.rd.below bb)
  have HC2 := Lib.hid (HV.out.keep (fun p hp => (Below.then hb bb).cell hp))
  clear ho hb hp bb
  go_wp2_with fail
  rw [← hbx]
  generalize w1.alloc (.cells #[.int .i64 n, .slice Y n cy] 28) = w2 at *
  clear hbx
  have y0 := HX2.out.1
  have y1 := HX2.out.2
  go_wp2_with fail
  refine (cFullWay HP.out HT2.out).mono ?_
  rintro e w3 ⟨WA, cw, rfl, ho3, hb3⟩
  obtain ⟨wg, wo, rfl⟩ := rd_at ho3.rd (fwL_len xs n) hn1
  have HB3 := Lib.hid (Below.then HB2.out hb3)
  have HX3 := Lib.hid (HX2.out.below hb3)
  have HT3 := Lib.hid (HT2.out.below hb3)
  have HC3 := Lib.hid (HC2.out.keep (fun p hp => hb3.cell (by have := HB2.out.size; omega)))
  have HW3 := Lib.hid ho3.rd
  clear ho3 hb3 HX2 HT2 HC2 HB2 y0 y1
  have y0 := HX3.out.1
  have y1 := HX3.out.2
  obtain ⟨F1, F2, F3, F4⟩ := ff_law HP.out
  go_wp2_with fail
  refine (cFirstWay HP.out HT3.out).mono ?_
  rintro e w4 ⟨fv, rfl, ho4, hb4⟩
  obtain ⟨FA, fc, rfl, -⟩ := ho4.form
  rw [nI_len, F1] at ho4 ⊢
  obtain ⟨fg, fo, rfl⟩ := rd_at ho4.rd (by rw [nI_len, F1]) hn1
  have HS4 : Hid (WSt w w4 bx n Y cy xs (.slice A0 k0 c0) wg wo cw fg fo fc) := Lib.hid ⟨Below.then HB3.out hb4, HX3.out.below hb4, HT3.out.below hb4, HC3.out.keep (fun p hp => hb4.cell (by have := HB3.out.size; omega)), HW3.out.below hb4, ho4.rd⟩
  have HF1 := Lib.hid F1
  have HF2 := Lib.hid F2
  have HF3 := Lib.hid F3
  have HF4 := Lib.hid F4
  clear ho4 hb4 HX3 HT3 HC3 HB3 HW3 y0 y1 F1 F2 F3 F4
  have y0 := HS4.out.box.1
  have y1 := HS4.out.box.2
  go_wp2_with fail
  refine (cFullWays HP.out HS4.out.tour).mono ?_
  rintro e w5 ⟨rfl, hb5⟩
  have HS5 := Lib.hid (HS4.out.next hb5)
  clear hb5 HS4 y0 y1
  obtain ⟨C, hC⟩ : ∃ C, C = wyS xs n n := ⟨_, rfl⟩
  have HC := Lib.hid hC
  have hCle : C ≤ 16777216 := by rw [hC]; have := wyS_le (xs := xs) (n := n) (by omega) n (Nat.le_refl _); omega
  have hCodd : C % 2 = 1 := by rw [hC]; exact ways_odd HP.out hn7
  rw [← hC]
  clear hC
  go_wp2
  go_loopw [8, 9] (fun t8 t9 wr => ∃ (a : Nat), a ≤ n ∧ t9 = .int .i64 a ∧ t8 = .int .i64 (wyS xs n a : Nat) ∧ Hid (WSt w wr bx n Y cy xs (.slice A0 k0 c0) wg wo cw fg fo fc)) (fun _ t9 _ => n - (intOf t9).toNat)
  case atStart => exact ⟨0, by omega, rfl, rfl, HS5⟩
  case round =>
    obtain ⟨wj, rfl⟩ : ∃ x, x = wr := ⟨_, rfl⟩
    obtain ⟨a, ha, rfl, rfl, HS⟩ := hrel
    clear HS5
    by_cases hlt : a < n
    · as_aux_lemma =>
      -- heavy
      have HST := Lib.hid (show wyS xs n (a + 1) = wyS xs n a + wyA xs n a from rfl)
      have hSa := wyS_le (xs := xs) (n := n) (by omega) a ha
      have hA := wyA_le (xs := xs) (n := n) (by omega) hlt
      have HPOS := Lib.hid (fun h => HF4.out a hlt (wyA_pos hlt h))
      have y0 := HS.out.box.1
      have y1 := HS.out.box.2
      go_wp2_with fail
      refine (cWaysFrom HP.out HS.out.tour a hlt).mono ?_
      rintro e w6 ⟨rfl, hb6⟩
      have HS6 := Lib.hid (HS.out.next hb6)
      clear hb6 HS y0 y1
      have zf := rd_cell HS6.out.fst (by rw [nI_len, HF1.out]) hn1
      rw [nI_getD (by rw [HF1.out]; exact hn1), Nat.add_zero] at zf
      generalize (ffN xs n).getD 0 0 = f0 at *
      generalize wyS xs n a = T at *
      generalize wyA xs n a = K at *
      have hn0' : decide ((0 : Int) < (n : Int)) = true := by simp; omega
      rcases Nat.eq_zero_or_pos K with hK | hK
      · subst hK
        go_wp2
        go_roundw
        case rel => exact ⟨a + 1, by omega, by go_num, by rw [HST.out]; go_num, HS6⟩
        case measure => simp [intOf]; omega
      · have hle := HPOS.out hK
        have d1 : decide ((0 : Int) < (K : Int)) = true := by simp; omega
        have d2 : decide ((a : Int) < (f0 : Int)) = false := by simp; omega
        have d3 : decide ((K : Int) < 0) = false := by simp
        have d4 : decide (a < f0) = false := by simp; omega
        have d5 : decide (0 < K) = true := by simp; omega
        go_wp2
        go_roundw
        case rel => exact ⟨a + 1, by omega, by go_num, by rw [HST.out]; go_num, HS6⟩
        case measure => simp [intOf]; omega
      -- light
    · as_aux_lemma =>
      obtain rfl : a = n := by omega
      rw [← HC.out]
      obtain ⟨T1, T2⟩ := turn_counts HP.out
      rw [← HC.out] at T1
      have HT1 := Lib.hid T1
      have HT2 := Lib.hid T2
      have HTT := Lib.hid (trnL_tour HP.out)
      clear T1 T2
      have y0 := HS.out.box.1
      have y1 := HS.out.box.2
      go_wp2_with fail
      refine (cTurn HP.out HS.out.tour).mono ?_
      rintro e w6 ⟨UA, cu, rfl, ho6, hb6⟩
      have bb := below_alloc1 w6 (.cells #[.int .i64 a, .slice UA a cu] 28)
      obtain ⟨bu, hbu⟩ : ∃ b, b = w6.heap.size := ⟨_, rfl⟩
      have HX := Lib.hid (show TBox (w6.alloc (.cells #[.int .i64 a, .slice UA a cu] 28)) bu a (.slice UA a cu) by rw [hbu]; exact TBox.new w6 a (.slice UA a cu) 28)
      have HU := Lib.hid (ho6.rd.below bb)
      have HS7 := Lib.hid (HS.out.next (Below.then hb6 bb))
      clear ho6 hb6 bb HS y0 y1
      go_wp2_with fail
      rw [← hbu]
      generalize w6.alloc (.cells #[.int .i64 a, .slice UA a cu] 28) = w7 at *
      clear hbu
      go_wp2_with fail
      have BB0 : Below w7.heap.size w7 w7.drew := (Below.refl _ _).drew
      have BB0B : Below w7.heap.size w7 (w7.drew.alloc (.cells #[.int .i64 0, .slice none 0 0] 28)) := BB0.alloc BB0.size _
      have HF0B : Hid (BoxF (w7.drew.alloc (.cells #[.int .i64 0, .slice none 0 0] 28)) w7.heap.size 0 (.slice none 0 0)) := Lib.hid (BoxF.new w7.drew 0 (.slice none 0 0) 28)
      have KP : Hid (∀ W, Below w7.heap.size w7 W → (W.cell? ⟨bx, 0, none⟩ = some (.int .i64 a) ∧ W.cell? ⟨bx, 1, none⟩ = some (.slice Y a cy))) := Lib.hid fun W hW => ⟨(HS7.out.box.below hW).1, (HS7.out.box.below hW).2⟩
      have MO : Hid (∀ W, Below w7.heap.size w7 W → Calls Try.prog 26 #[.slice A0 k0 c0, .int .i64 20, .int .i64 a] W fun e w' => ∃ OA co q, e = .returned (.slice OA a co) ∧ PermP a q ∧ Own w' W.heap.size (.slice OA a co) q ∧ Below W.heap.size W w') := Lib.hid fun W hW => (makeOrder_any W (.slice A0 k0 c0) 20 20 a rfl (by omega) hn1 (by omega) ((HS7.out.next hW).code.mono (HS7.out.next hW).below.size)).mono fun e w' ⟨sl, ns, h1, h2, h3, h4⟩ => by
        obtain ⟨OA, co, rfl, -⟩ := h3.form
        rw [h2.1] at h1 h3
        exact ⟨OA, co, ns, h1, h2, h3, h4⟩
      have RN : Hid (∀ W OA co q, Below w7.heap.size w7 W → Rd W (.slice OA a co) q → PermP a q → Calls Try.prog 27 #[.agg #[.int .i64 a, .slice Y a cy], .slice OA a co] W fun e w' => ∃ A2 d2, e = .returned (.tuple #[.agg #[.int .i64 a, .slice A2 a d2], .bool true]) ∧ Own w' W.heap.size (.slice A2 a d2) (rnL xs q) ∧ Below W.heap.size W w') := Lib.hid fun W OA co q hW hr hq => cRename HP.out (HS7.out.next hW).tour hr hq
      go_cut [13] (fun t13 wx => ∃ (bz : Nat) (q : List Int) (A2 : Option Addr) (d2 : Nat), t13 = .pointer (some ⟨bz, 0, none⟩) ∧ Hid (PermP a q) ∧ Hid (TBox wx bz a (.slice A2 a d2)) ∧ Hid (Rd wx (.slice A2 a d2) (rnL xs q)) ∧ Hid (Below w7.heap.size w7 wx))
      case first =>
        as_aux_lemma =>
          -- heavy
          go_region_held3 (fun W => W.cell? ⟨bx, 0, none⟩ = some (.int .i64 a) ∧ W.cell? ⟨bx, 1, none⟩ = some (.slice Y a cy))
            (first | exact KP.out _ BB0 | exact KP.out _ BB0B | exact KP.out _ BB1 | exact KP.out _ (BB1.alloc BB1.size _) | exact KP.out _ BB2 | exact KP.out _ (BB2.alloc BB2.size _) | exact KP.out _ (BB2.setCell (p := ⟨w7.heap.size, 0, none⟩) (Nat.le_refl _) _) | exact KP.out _ ((BB2.setCell (p := ⟨w7.heap.size, 0, none⟩) (Nat.le_refl _) _).setCell (p := ⟨w7.heap.size, 1, none⟩) (Nat.le_refl _) _) | exact KP.out _ (BB2.setCell (p := ⟨v1.heap.size, 0, none⟩) BB1.size _) | exact KP.out _ ((BB2.setCell (p := ⟨v1.heap.size, 0, none⟩) BB1.size _).setCell (p := ⟨v1.heap.size, 1, none⟩) BB1.size _))
            (first
              | (go_at_call 27; refine (RN.out v1 OA co q BB1 HO1.out.rd HQ1.out).mono ?_; rintro e v2 ⟨A2, d2, rfl, ho2, hb2⟩; have HO2 := Lib.hid ho2; have BB2 := Below.then BB1 hb2; (try have HF2 := Lib.hid (HF1.out.below hb2)); (try have v00 := HF2.out.1.1); (try have v01 := HF2.out.1.2); (try have f00 := HF2.out.2 0); (try have f01 := HF2.out.2 1); clear hb2 ho2)
              | (go_at_call 27; refine (RN.out (v1.alloc (.cells #[.int .i64 0, .slice none 0 0] 28)) OA co q (BB1.alloc BB1.size _) (HO1.out.rd.below (below_alloc1 _ _)) HQ1.out).mono ?_; rintro e v2 ⟨A2, d2, rfl, ho2, hb2⟩; have HO2 := Lib.hid ho2; have BB2 := Below.then (BB1.alloc BB1.size _) hb2; have HF2 := Lib.hid ((BoxF.new v1 0 (.slice none 0 0) 28).below hb2); have v00 := HF2.out.1.1; have v01 := HF2.out.1.2; have f00 := HF2.out.2 0; have f01 := HF2.out.2 1; clear hb2 ho2)
              | (go_at_call 26; refine (MO.out w7.drew BB0).mono ?_; rintro e v1 ⟨OA, co, q, rfl, hq1, ho1, hb1⟩; have HO1 := Lib.hid ho1; have HQ1 := Lib.hid hq1; have BB1 := Below.then BB0 hb1; clear hb1 ho1 hq1)
              | (go_at_call 26; refine (MO.out (w7.drew.alloc (.cells #[.int .i64 0, .slice none 0 0] 28)) BB0B).mono ?_; rintro e v1 ⟨OA, co, q, rfl, hq1, ho1, hb1⟩; have HO1 := Lib.hid ho1; have HQ1 := Lib.hid hq1; have BB1 := Below.then BB0B hb1; have HF1 := Lib.hid (HF0B.out.below hb1); clear hb1 ho1 hq1))
          all_goals
            go_wp2_with fail
            go_meet
            case rel => first
              | exact ⟨_, q, A2, d2, rfl, HQ1, Lib.hid (TBox.new v2 a (.slice A2 a d2) 28), Lib.hid (HO2.out.rd.below (below_alloc1 _ _)), Lib.hid (BB2.alloc BB2.size _)⟩
              | exact ⟨_, q, A2, d2, rfl, HQ1, Lib.hid (HF2.out.set01 a (.slice A2 a d2)).1, Lib.hid (rd_set01w HO2.out (a : Int) (.slice A2 a d2) HF1.out.gt), Lib.hid ((BB2.setCell (p := ⟨w7.heap.size, 0, none⟩) (Nat.le_refl _) _).setCell (p := ⟨w7.heap.size, 1, none⟩) (Nat.le_refl _) _)⟩
              | exact ⟨_, q, A2, d2, rfl, HQ1, Lib.hid (HF2.out.set01 a (.slice A2 a d2)).1, Lib.hid (rd_set01w HO2.out (a : Int) (.slice A2 a d2) (by simp)), Lib.hid ((BB2.setCell (p := ⟨v1.heap.size, 0, none⟩) BB1.size _).setCell (p := ⟨v1.heap.size, 1, none⟩) BB1.size _)⟩
          -- light
      case rest =>
      as_aux_lemma =>
        obtain ⟨bz, q, A2, d2, rfl, HQ, HZ, HZR, HBZ⟩ := hcut
        have HS8 := Lib.hid (HS7.out.next HBZ.out)
        have HX8 := Lib.hid (HX.out.below HBZ.out)
        have HU8 := Lib.hid (HU.out.below HBZ.out)
        clear HS7 HX HU HBZ BB0 BB0B HF0B KP MO RN
        obtain ⟨R0, R1, R2⟩ := rename_counts HP.out HQ.out
        rw [← HC.out] at R1
        have HR0 := Lib.hid R0
        have HR1 := Lib.hid R1
        have HR2 := Lib.hid R2
        clear R0 R1 R2
        obtain ⟨lw, elw, hlw, hokw⟩ := fw_way HP.out
        have HBW := Lib.hid (show befI (fwL xs a) (nI (ffN xs a)) = false by rw [elw]; exact leN_bef (HF3.out lw hlw hokw))
        have HWW := Lib.hid (show wayB a xs (fwL xs a) = true by rw [elw]; exact okW_way HP.out hokw)
        have HFW := Lib.hid (okW_way HP.out HF2.out)
        clear elw hlw hokw lw
        have y0 := HS8.out.box.1
        have y1 := HS8.out.box.2
        go_wp2_with fail
        refine (cIsWay HS8.out.tour HS8.out.way HWW.out).mono ?_
        rintro e w9 ⟨rfl, hb9⟩
        have HS9 := Lib.hid (HS8.out.next hb9)
        have HX9 := Lib.hid (HX8.out.below hb9)
        have HU9 := Lib.hid (HU8.out.below hb9)
        have HZ9 := Lib.hid (HZ.out.below hb9)
        have HZR9 := Lib.hid (HZR.out.below hb9)
        clear hb9 HS8 HX8 HU8 HZ HZR y0 y1
        have y0 := HS9.out.box.1
        have y1 := HS9.out.box.2
        go_wp2_with fail
        refine (cIsWay HS9.out.tour HS9.out.fst HFW.out).mono ?_
        rintro e w10 ⟨rfl, hb10⟩
        have HS10 := Lib.hid (HS9.out.next hb10)
        have HX10 := Lib.hid (HX9.out.below hb10)
        have HU10 := Lib.hid (HU9.out.below hb10)
        have HZ10 := Lib.hid (HZ9.out.below hb10)
        have HZR10 := Lib.hid (HZR9.out.below hb10)
        clear hb10 HS9 HX9 HU9 HZ9 HZR9 y0 y1
        go_wp2_with fail
        refine (lbefore_any _ _ _ _ w10 HS10.out.way HS10.out.fst).mono ?_
        rintro e vx ⟨rfl, rfl⟩
        rw [HBW.out]
        have o1 : Int.tmod (C : Int) 2 = 1 := by rw [Int.tmod_eq_emod_of_nonneg (by omega)]; omega
        have o2 : (C : Int) % 2 = 1 := by omega
        have x0 := HX10.out.1
        have x1 := HX10.out.2
        go_wp2_with fail
        refine (cFullWays HTT.out HU10.out).mono ?_
        rintro e w11 ⟨rfl, hb11⟩
        rw [HT1.out]
        have HS11 := Lib.hid (HS10.out.next hb11)
        have HX11 := Lib.hid (HX10.out.below hb11)
        have HU11 := Lib.hid (HU10.out.below hb11)
        have HZ11 := Lib.hid (HZ10.out.below hb11)
        have HZR11 := Lib.hid (HZR10.out.below hb11)
        clear hb11 HS10 HX10 HU10 HZ10 HZR10 x0 x1
        have x0 := HZ11.out.1
        have x1 := HZ11.out.2
        go_wp2_with fail
        refine (cFullWays HR0.out HZR11.out).mono ?_
        rintro e w12 ⟨rfl, hb12⟩
        rw [HR1.out]
        have HS12 := Lib.hid (HS11.out.next hb12)
        have HX12 := Lib.hid (HX11.out.below hb12)
        have HU12 := Lib.hid (HU11.out.below hb12)
        have HZ12 := Lib.hid (HZ11.out.below hb12)
        have HZR12 := Lib.hid (HZR11.out.below hb12)
        clear hb12 HS11 HX11 HU11 HZ11 HZR11 x0 x1 HF1 HF2 HF3 HF4 HBW HWW HFW
        have y0 := HS12.out.box.1
        have y1 := HS12.out.box.2
        go_wp2_with fail
        refine (cFullCycles HP.out HS12.out.tour).mono ?_
        rintro e w13 ⟨rfl, hb13⟩
        have HS13 := Lib.hid (HS12.out.next hb13)
        have HX13 := Lib.hid (HX12.out.below hb13)
        have HU13 := Lib.hid (HU12.out.below hb13)
        have HZ13 := Lib.hid (HZ12.out.below hb13)
        have HZR13 := Lib.hid (HZR12.out.below hb13)
        clear hb13 HS12 HX12 HU12 HZ12 HZR12 y0 y1 o1 o2
        go_wp2_with fail
        have HL := Lib.hid (fwL_len xs a)
        have hKb : cyA xs a ≤ 2097152 := cyA_le HP.out
        have hSB : 3 ≤ a → strB xs a = decide (0 < cyA xs a) := fun h3 => by
          rw [Bool.eq_iff_iff, strB_iff HP.out, decide_eq_true_eq, cyc_strong HP.out h3 hn7]
        have KU := Lib.hid (fun W (hW : Below w13.heap.size w13 W) => cFullCycles HTT.out (HU13.out.below hW))
        have KR := Lib.hid (fun W (hW : Below w13.heap.size w13 W) => cFullCycles HR0.out (HZR13.out.below hW))
        have KS := Lib.hid (fun W (hW : Below w13.heap.size w13 W) => cIsStrong HP.out (HS13.out.next hW).tour)
        rw [HT2.out] at KU
        rw [HR2.out] at KR
        obtain ⟨h, hh⟩ : ∃ h, h = a / 2 := ⟨_, rfl⟩
        have hha : h ≤ a := by omega
        have KH : Hid (∀ W, Below w13.heap.size w13 W → Calls Try.prog 41 #[.agg #[.int .i64 a, .slice Y a cy], .slice (some ⟨wg, wo, none⟩) h cw] W fun e w' => e = .returned (.bool true) ∧ Below W.heap.size W w') := Lib.hid fun W hW => cIsWay (HS13.out.next hW).tour (by
          have := Rd.take_ (HS13.out.next hW).way h (by rw [HL.out]; exact hha)
          exact this) (half_way HP.out h)
        have KL : Hid (∀ W A c' (x : Int), Below w13.heap.size w13 W → Rd W (.slice A (a + 1) c') (fwL xs a ++ [x]) → Calls Try.prog 41 #[.agg #[.int .i64 a, .slice Y a cy], .slice A (a + 1) c'] W fun e w' => e = .returned (.bool false) ∧ Below W.heap.size W w') := Lib.hid fun W A c' x hW hr => cIsWay (HS13.out.next hW).tour hr (long_way HP.out x)
        have ek : Int.tdiv (a : Int) 2 = (h : Int) := by rw [Int.tdiv_eq_ediv_of_nonneg (by omega)]; omega
        have ek2 : (a : Int) / 2 = (h : Int) := by omega
        have hwcap : a ≤ cw ∧ cw ≤ 2 ^ 63 - 1 := by
          have := rd_len HS13.out.way
          have h2 := rd_cap HS13.out.way
          unfold maxLen at h2
          exact ⟨this.2.1, h2⟩
        clear hh
        have HWC : Hid (∀ W, Below w13.heap.size w13 W → ∀ k, k < a → W.cell? ((⟨wg, wo, none⟩ : Addr).add k) = some (.int .i64 ((fwL xs a).getD k 0))) := Lib.hid fun W hW k hk => by
          rw [Addr.add_lit]
          exact rd_cell (HS13.out.next hW).way HL.out hk
        have z0 := rd_cell HS13.out.way HL.out hn1
        rw [Nat.add_zero] at z0
        generalize (fwL xs a).getD 0 0 = x0 at *
        have BB0 : Below w13.heap.size w13 w13.drew := (Below.refl _ _).drew
        have KP : Hid (∀ W, Below w13.heap.size w13 W → ((W.cell? ⟨bx, 0, none⟩ = some (.int .i64 a) ∧ W.cell? ⟨bx, 1, none⟩ = some (.slice Y a cy)) ∧ (W.cell? ⟨bu, 0, none⟩ = some (.int .i64 a) ∧ W.cell? ⟨bu, 1, none⟩ = some (.slice UA a cu)) ∧ (W.cell? ⟨bz, 0, none⟩ = some (.int .i64 a) ∧ W.cell? ⟨bz, 1, none⟩ = some (.slice A2 a d2)) ∧ W.cell? ⟨wg, wo, none⟩ = some (.int .i64 x0))) := Lib.hid fun W hW => ⟨(HS13.out.next hW).box, HX13.out.below hW, HZ13.out.below hW, (hW.cell (World.block_lt_of_cell? _ _ z0)).trans z0⟩
        clear z0
        generalize cyA xs a = K at *
        generalize strB xs a = sb at *
        have d0 : decide ((0 : Int) ≤ (K : Int)) = true := by simp
        have hap : 0 < a := by omega
        by_cases h3 : a < 3
        · as_aux_lemma =>
          obtain ⟨i1, i2, i3, i4, i5, i6, i7, i8, i9, i10, d3, d3n, d3p⟩ := half_facts hha hn7 hn1 hwcap.1 h3
          refine wp_region_held_drew (S := (fun W => (W.cell? ⟨bx, 0, none⟩ = some (.int .i64 a) ∧ W.cell? ⟨bx, 1, none⟩ = some (.slice Y a cy)) ∧ (W.cell? ⟨bu, 0, none⟩ = some (.int .i64 a) ∧ W.cell? ⟨bu, 1, none⟩ = some (.slice UA a cu)) ∧ (W.cell? ⟨bz, 0, none⟩ = some (.int .i64 a) ∧ W.cell? ⟨bz, 1, none⟩ = some (.slice A2 a d2)) ∧ W.cell? ⟨wg, wo, none⟩ = some (.int .i64 x0))) (by kernel_rfl) (KP.out _ BB0) (fun hS0 => ?_)
          refine hTake (i := 0) (v := ?v0_1) rfl (by kernel_rfl) (by kernel_rfl) (by kernel_rfl) (fun _ _ _ h => h) (Or.inl ⟨by rfl, ?hy0_1⟩) hS0 ?rest0_1
          case hy0_1 =>
            intro W hSw
            (try dsimp only at hSw)
            go_simp
            first | done | (with_reducible rfl)
          try simp only [Act.put, List.setIfInBounds_toArray, List.set_cons_zero, List.set_cons_succ]
          refine hTake (i := 1) (v := ?v1_2) rfl (by kernel_rfl) (by kernel_rfl) (by kernel_rfl) (fun _ _ _ h => h) (Or.inl ⟨by rfl, ?hy1_2⟩) hS0 ?rest1_2
          case hy1_2 =>
            intro W hSw
            (try dsimp only at hSw)
            go_simp
            first | done | (with_reducible rfl)
          try simp only [Act.put, List.setIfInBounds_toArray, List.set_cons_zero, List.set_cons_succ]
          refine hTake (i := 2) (v := ?v2_3) rfl (by kernel_rfl) (by kernel_rfl) (by kernel_rfl) (fun _ _ _ h => h) (Or.inl ⟨by rfl, ?hy2_3⟩) hS0 ?rest2_3
          case hy2_3 =>
            intro W hSw
            (try dsimp only at hSw)
            go_simp
            first | done | (with_reducible rfl)
          try simp only [Act.put, List.setIfInBounds_toArray, List.set_cons_zero, List.set_cons_succ]
          refine hTake (i := 3) (v := ?v3_4) rfl (by kernel_rfl) (by kernel_rfl) (by kernel_rfl) (fun _ _ _ h => h) (Or.inl ⟨by rfl, ?hy3_4⟩) hS0 ?rest3_4
          case hy3_4 =>
            intro W hSw
            (try dsimp only at hSw)
            go_simp
            first | done | (with_reducible rfl)
          try simp only [Act.put, List.setIfInBounds_toArray, List.set_cons_zero, List.set_cons_succ]
          refine hTake (i := 4) (v := ?v4_5) rfl (by kernel_rfl) (by kernel_rfl) (by kernel_rfl) (fun _ _ _ h => h) (Or.inl ⟨by rfl, ?hy4_5⟩) hS0 ?rest4_5
          case hy4_5 =>
            intro W hSw
            (try dsimp only at hSw)
            go_simp
            first | done | (with_reducible rfl)
          try simp only [Act.put, List.setIfInBounds_toArray, List.set_cons_zero, List.set_cons_succ]
          refine wpAnyH_ready (rs := [5]) (by kernel_rfl) (by simp) ?_
          refine hStep (i := 5) rfl (fun K hK => ?_) AllReadyH.nil
          go_simp; go_at_call 50; refine (KU.out _ BB0).mono ?_; rintro e v1 ⟨rfl, hb⟩; have BB1 := Below.then BB0 hb; clear hb; try go_wp2_with fail
          refine hK.out _ _ ?_ (fun hS1 => ?_)
          · (try dsimp only); exact KP.out _ BB1
          clear hK K
          try simp only [Act.put, List.setIfInBounds_toArray, List.set_cons_zero, List.set_cons_succ]
          refine hTake (i := 6) (v := ?v6_6) rfl (by kernel_rfl) (by kernel_rfl) (by kernel_rfl) (fun _ _ _ h => h) (Or.inl ⟨by rfl, ?hy6_6⟩) hS1 ?rest6_6
          case hy6_6 =>
            intro W hSw
            (try dsimp only at hSw)
            go_simp
            first | done | (with_reducible rfl)
          try simp only [Act.put, List.setIfInBounds_toArray, List.set_cons_zero, List.set_cons_succ]
          refine hTake (i := 7) (v := ?v7_7) rfl (by kernel_rfl) (by kernel_rfl) (by kernel_rfl) (fun _ _ _ h => h) (Or.inl ⟨by rfl, ?hy7_7⟩) hS1 ?rest7_7
          case hy7_7 =>
            intro W hSw
            (try dsimp only at hSw)
            go_simp
            first | done | (with_reducible rfl)
          try simp only [Act.put, List.setIfInBounds_toArray, List.set_cons_zero, List.set_cons_succ]
          refine hTake (i := 8) (v := ?v8_8) rfl (by kernel_rfl) (by kernel_rfl) (by kernel_rfl) (fun _ _ _ h => h) (Or.inl ⟨by rfl, ?hy8_8⟩) hS1 ?rest8_8
          case hy8_8 =>
            intro W hSw
            (try dsimp only at hSw)
            go_simp
            first | done | (with_reducible rfl)
          try simp only [Act.put, List.setIfInBounds_toArray, List.set_cons_zero, List.set_cons_succ]
          refine hTake (i := 9) (v := ?v9_9) rfl (by kernel_rfl) (by kernel_rfl) (by kernel_rfl) (fun _ _ _ h => h) (Or.inl ⟨by rfl, ?hy9_9⟩) hS1 ?rest9_9
          case hy9_9 =>
            intro W hSw
            (try dsimp only at hSw)
            go_simp
            first | done | (with_reducible rfl)
          try simp only [Act.put, List.setIfInBounds_toArray, List.set_cons_zero, List.set_cons_succ]
          refine hTake (i := 10) (v := ?v10_10) rfl (by kernel_rfl) (by kernel_rfl) (by kernel_rfl) (fun _ _ _ h => h) (Or.inl ⟨by rfl, ?hy10_10⟩) hS1 ?rest10_10
          case hy10_10 =>
            intro W hSw
            (try dsimp only at hSw)
            go_simp
            first | done | (with_reducible rfl)
          try simp only [Act.put, List.setIfInBounds_toArray, List.set_cons_zero, List.set_cons_succ]
          refine wpAnyH_ready (rs := [11]) (by kernel_rfl) (by simp) ?_
          refine hStep (i := 11) rfl (fun K hK => ?_) AllReadyH.nil
          go_simp; go_at_call 50; refine (KR.out _ BB1).mono ?_; rintro e v2 ⟨rfl, hb⟩; have BB2 := Below.then BB1 hb; clear hb; try go_wp2_with fail
          refine hK.out _ _ ?_ (fun hS2 => ?_)
          · (try dsimp only); exact KP.out _ BB2
          clear hK K
          try simp only [Act.put, List.setIfInBounds_toArray, List.set_cons_zero, List.set_cons_succ]
          refine hTake (i := 12) (v := ?v12_11) rfl (by kernel_rfl) (by kernel_rfl) (by kernel_rfl) (fun _ _ _ h => h) (Or.inl ⟨by rfl, ?hy12_11⟩) hS2 ?rest12_11
          case hy12_11 =>
            intro W hSw
            (try dsimp only at hSw)
            go_simp
            first | done | (with_reducible rfl)
          try simp only [Act.put, List.setIfInBounds_toArray, List.set_cons_zero, List.set_cons_succ]
          refine hTake (i := 13) (v := ?v13_12) rfl (by kernel_rfl) (by kernel_rfl) (by kernel_rfl) (fun _ _ _ h => h) (Or.inl ⟨by rfl, ?hy13_12⟩) hS2 ?rest13_12
          case hy13_12 =>
            intro W hSw
            (try dsimp only at hSw)
            go_simp
            first | done | (with_reducible rfl)
          try simp only [Act.put, List.setIfInBounds_toArray, List.set_cons_zero, List.set_cons_succ]
          refine hTake (i := 14) (v := ?v14_13) rfl (by kernel_rfl) (by kernel_rfl) (by kernel_rfl) (fun _ _ _ h => h) (Or.inl ⟨by rfl, ?hy14_13⟩) hS2 ?rest14_13
          case hy14_13 =>
            intro W hSw
            (try dsimp only at hSw)
            go_simp
            first | done | (with_reducible rfl)
          try simp only [Act.put, List.setIfInBounds_toArray, List.set_cons_zero, List.set_cons_succ]
          refine hTake (i := 15) (v := ?v15_14) rfl (by kernel_rfl) (by kernel_rfl) (by kernel_rfl) (fun _ _ _ h => h) (Or.inl ⟨by rfl, ?hy15_14⟩) hS2 ?rest15_14
          case hy15_14 =>
            intro W hSw
            (try dsimp only at hSw)
            go_simp
            first | done | (with_reducible rfl)
          try simp only [Act.put, List.setIfInBounds_toArray, List.set_cons_zero, List.set_cons_succ]
          refine hTake (i := 16) (v := ?v16_15) rfl (by kernel_rfl) (by kernel_rfl) (by kernel_rfl) (fun _ _ _ h => h) (Or.inl ⟨by rfl, ?hy16_15⟩) hS2 ?rest16_15
          case hy16_15 =>
            intro W hSw
            (try dsimp only at hSw)
            go_simp
            first | done | (with_reducible rfl)
          try simp only [Act.put, List.setIfInBounds_toArray, List.set_cons_zero, List.set_cons_succ]
          refine hTake (i := 17) (v := ?v17_16) rfl (by kernel_rfl) (by kernel_rfl) (by kernel_rfl) (fun _ _ _ h => h) (Or.inl ⟨by rfl, ?hy17_16⟩) hS2 ?rest17_16
          case hy17_16 =>
            intro W hSw
            (try dsimp only at hSw)
            go_simp
            first | done | (with_reducible rfl)
          try simp only [Act.put, List.setIfInBounds_toArray, List.set_cons_zero, List.set_cons_succ]
          refine hSkip (i := 18) rfl (by kernel_rfl) (by kernel_rfl) (by kernel_rfl) (fun _ _ _ h => h) (by first | rfl | (simp [Region.wanted, yielded, *]; done)) hS2 ?_
          try simp only [Act.put, List.setIfInBounds_toArray, List.set_cons_zero, List.set_cons_succ]
          refine hSkip (i := 19) rfl (by kernel_rfl) (by kernel_rfl) (by kernel_rfl) (fun _ _ _ h => h) (by first | rfl | (simp [Region.wanted, yielded, *]; done)) hS2 ?_
          try simp only [Act.put, List.setIfInBounds_toArray, List.set_cons_zero, List.set_cons_succ]
          refine hSkip (i := 20) rfl (by kernel_rfl) (by kernel_rfl) (by kernel_rfl) (fun _ _ _ h => h) (by first | rfl | (simp [Region.wanted, yielded, *]; done)) hS2 ?_
          try simp only [Act.put, List.setIfInBounds_toArray, List.set_cons_zero, List.set_cons_succ]
          refine hSkip (i := 21) rfl (by kernel_rfl) (by kernel_rfl) (by kernel_rfl) (fun _ _ _ h => h) (by first | rfl | (simp [Region.wanted, yielded, *]; done)) hS2 ?_
          try simp only [Act.put, List.setIfInBounds_toArray, List.set_cons_zero, List.set_cons_succ]
          refine hSkip (i := 22) rfl (by kernel_rfl) (by kernel_rfl) (by kernel_rfl) (fun _ _ _ h => h) (by first | rfl | (simp [Region.wanted, yielded, *]; done)) hS2 ?_
          try simp only [Act.put, List.setIfInBounds_toArray, List.set_cons_zero, List.set_cons_succ]
          refine hTake (i := 23) (v := ?v23_22) rfl (by kernel_rfl) (by kernel_rfl) (by kernel_rfl) (fun _ _ _ h => h) (Or.inl ⟨by rfl, ?hy23_22⟩) hS2 ?rest23_22
          case hy23_22 =>
            intro W hSw
            (try dsimp only at hSw)
            go_simp
            first | done | (with_reducible rfl)
          try simp only [Act.put, List.setIfInBounds_toArray, List.set_cons_zero, List.set_cons_succ]
          refine hTake (i := 24) (v := ?v24_23) rfl (by kernel_rfl) (by kernel_rfl) (by kernel_rfl) (fun _ _ _ h => h) (Or.inl ⟨by rfl, ?hy24_23⟩) hS2 ?rest24_23
          case hy24_23 =>
            intro W hSw
            (try dsimp only at hSw)
            go_simp
            first | done | (with_reducible rfl)
          try simp only [Act.put, List.setIfInBounds_toArray, List.set_cons_zero, List.set_cons_succ]
          refine hTake (i := 25) (v := ?v25_24) rfl (by kernel_rfl) (by kernel_rfl) (by kernel_rfl) (fun _ _ _ h => h) (Or.inl ⟨by rfl, ?hy25_24⟩) hS2 ?rest25_24
          case hy25_24 =>
            intro W hSw
            (try dsimp only at hSw)
            go_simp
            first | done | (with_reducible rfl)
          try simp only [Act.put, List.setIfInBounds_toArray, List.set_cons_zero, List.set_cons_succ]
          refine hTake (i := 26) (v := ?v26_25) rfl (by kernel_rfl) (by kernel_rfl) (by kernel_rfl) (fun _ _ _ h => h) (Or.inl ⟨by rfl, ?hy26_25⟩) hS2 ?rest26_25
          case hy26_25 =>
            intro W hSw
            (try dsimp only at hSw)
            go_simp
            first | done | (with_reducible rfl)
          try simp only [Act.put, List.setIfInBounds_toArray, List.set_cons_zero, List.set_cons_succ]
          refine hTake (i := 27) (v := ?v27_26) rfl (by kernel_rfl) (by kernel_rfl) (by kernel_rfl) (fun _ _ _ h => h) (Or.inl ⟨by rfl, ?hy27_26⟩) hS2 ?rest27_26
          case hy27_26 =>
            intro W hSw
            (try dsimp only at hSw)
            go_simp
            first | done | (with_reducible rfl)
          try simp only [Act.put, List.setIfInBounds_toArray, List.set_cons_zero, List.set_cons_succ]
          refine hTake (i := 28) (v := ?v28_27) rfl (by kernel_rfl) (by kernel_rfl) (by kernel_rfl) (fun _ _ _ h => h) (Or.inl ⟨by rfl, ?hy28_27⟩) hS2 ?rest28_27
          case hy28_27 =>
            intro W hSw
            (try dsimp only at hSw)
            go_simp
            first | done | (with_reducible rfl)
          try simp only [Act.put, List.setIfInBounds_toArray, List.set_cons_zero, List.set_cons_succ]
          refine hTake (i := 29) (v := ?v29_28) rfl (by kernel_rfl) (by kernel_rfl) (by kernel_rfl) (fun _ _ _ h => h) (Or.inl ⟨by rfl, ?hy29_28⟩) hS2 ?rest29_28
          case hy29_28 =>
            intro W hSw
            (try dsimp only at hSw)
            go_simp
            first | done | (with_reducible rfl)
          try simp only [Act.put, List.setIfInBounds_toArray, List.set_cons_zero, List.set_cons_succ]
          refine hTake (i := 30) (v := ?v30_29) rfl (by kernel_rfl) (by kernel_rfl) (by kernel_rfl) (fun _ _ _ h => h) (Or.inl ⟨by rfl, ?hy30_29⟩) hS2 ?rest30_29
          case hy30_29 =>
            intro W hSw
            (try dsimp only at hSw)
            go_simp
            first | done | (with_reducible rfl)
          try simp only [Act.put, List.setIfInBounds_toArray, List.set_cons_zero, List.set_cons_succ]
          refine wpAnyH_ready (rs := [31]) (by kernel_rfl) (by simp) ?_
          refine hStep (i := 31) rfl (fun K hK => ?_) AllReadyH.nil
          go_simp; go_at_call 41; refine (KH.out _ BB2).mono ?_; rintro e v4 ⟨rfl, hb⟩; have BB4 := Below.then BB2 hb; clear hb; try go_wp2_with fail
          refine hK.out _ _ ?_ (fun hS4 => ?_)
          · (try dsimp only); exact KP.out _ BB4
          clear hK K
          try simp only [Act.put, List.setIfInBounds_toArray, List.set_cons_zero, List.set_cons_succ]
          refine hTake (i := 32) (v := ?v32_30) rfl (by kernel_rfl) (by kernel_rfl) (by kernel_rfl) (fun _ _ _ h => h) (Or.inl ⟨by rfl, ?hy32_30⟩) hS4 ?rest32_30
          case hy32_30 =>
            intro W hSw
            (try dsimp only at hSw)
            go_simp
            first | done | (with_reducible rfl)
          try simp only [Act.put, List.setIfInBounds_toArray, List.set_cons_zero, List.set_cons_succ]
          refine hTake (i := 33) (v := ?v33_31) rfl (by kernel_rfl) (by kernel_rfl) (by kernel_rfl) (fun _ _ _ h => h) (Or.inl ⟨by rfl, ?hy33_31⟩) hS4 ?rest33_31
          case hy33_31 =>
            intro W hSw
            (try dsimp only at hSw)
            go_simp
            first | done | (with_reducible rfl)
          try simp only [Act.put, List.setIfInBounds_toArray, List.set_cons_zero, List.set_cons_succ]
          refine hTake (i := 34) (v := ?v34_32) rfl (by kernel_rfl) (by kernel_rfl) (by kernel_rfl) (fun _ _ _ h => h) (Or.inl ⟨by rfl, ?hy34_32⟩) hS4 ?rest34_32
          case hy34_32 =>
            intro W hSw
            (try dsimp only at hSw)
            go_simp
            first | done | (with_reducible rfl)
          try simp only [Act.put, List.setIfInBounds_toArray, List.set_cons_zero, List.set_cons_succ]
          refine hTake (i := 36) (v := ?v36_33) rfl (by kernel_rfl) (by kernel_rfl) (by kernel_rfl) (fun _ _ _ h => h) (Or.inl ⟨by rfl, ?hy36_33⟩) hS4 ?rest36_33
          case hy36_33 =>
            intro W hSw
            (try dsimp only at hSw)
            go_simp
            first | done | (with_reducible rfl)
          try simp only [Act.put, List.setIfInBounds_toArray, List.set_cons_zero, List.set_cons_succ]
          refine hTake (i := 38) (v := ?v38_34) rfl (by kernel_rfl) (by kernel_rfl) (by kernel_rfl) (fun _ _ _ h => h) (Or.inl ⟨by rfl, ?hy38_34⟩) hS4 ?rest38_34
          case hy38_34 =>
            intro W hSw
            (try dsimp only at hSw)
            go_simp
            first | done | (with_reducible rfl)
          try simp only [Act.put, List.setIfInBounds_toArray, List.set_cons_zero, List.set_cons_succ]
          refine hTake (i := 39) (v := ?v39_35) rfl (by kernel_rfl) (by kernel_rfl) (by kernel_rfl) (fun _ _ _ h => h) (Or.inl ⟨by rfl, ?hy39_35⟩) hS4 ?rest39_35
          case hy39_35 =>
            intro W hSw
            (try dsimp only at hSw)
            go_simp
            first | done | (with_reducible rfl)
          try simp only [Act.put, List.setIfInBounds_toArray, List.set_cons_zero, List.set_cons_succ]
          refine hTake (i := 40) (v := ?v40_36) rfl (by kernel_rfl) (by kernel_rfl) (by kernel_rfl) (fun _ _ _ h => h) (Or.inl ⟨by rfl, ?hy40_36⟩) hS4 ?rest40_36
          case hy40_36 =>
            intro W hSw
            (try dsimp only at hSw)
            go_simp
            first | done | (with_reducible rfl)
          try simp only [Act.put, List.setIfInBounds_toArray, List.set_cons_zero, List.set_cons_succ]
          refine wpAnyH_ready (rs := [35, 41]) (by kernel_rfl) (by simp) ?_
          refine hStep (i := 35) rfl (fun K hK => ?_) (hStep (i := 41) rfl (fun K hK => ?_) AllReadyH.nil)
          · go_simp
            refine hK.out _ _ ?_ (fun hS5 => ?_)
            · (try dsimp only); exact KP.out _ (BB4.alloc BB4.size _)
            clear hK K
            try simp only [Act.put, List.setIfInBounds_toArray, List.set_cons_zero, List.set_cons_succ]
            refine wpAnyH_ready (rs := [37, 41]) (by kernel_rfl) (by simp) ?_
            refine hStep (i := 37) rfl (fun K hK => ?_) (hStep (i := 41) rfl (fun K hK => ?_) AllReadyH.nil)
            · (refine step_appendG (v4.alloc (.cells #[] 3)) ?_ (.tmp 157) (.tmp 158) ?_ v4.heap.size (.slice (some ⟨v4.heap.size, 0, none⟩) 0 0) [] (fwL xs a) (fwL xs a) rfl 0 a a rfl HL.out (Nat.zero_add a) ⟨wg, wo, none⟩ cw (by simp [Act.eval]) (Own.lit v4 v4.heap.size [] (Nat.le_refl _) (by decide)) (by simp [Act.eval]) (fun k hk => HWC.out _ (BB4.alloc BB4.size _) k hk) (by omega) (by simp) ?_; rfl; rfl; intro A5 c5 v5 ho5 hg5; have HO5 := Lib.hid ho5; have HZ5 := Lib.hid (show v4.heap.size ≤ v5.heap.size from Nat.le_trans (by first | (simp; done) | (simp; omega)) hg5.size); have HOB := Lib.hid (fun k hk => Nat.le_trans BB4.size (ho5.lt k hk).1); have BB5 := below_grown (BB4.alloc BB4.size _) hg5 (Nat.le_trans BB4.size (by simp)) (fun k hk => by injection hk with hk; rw [← hk]; exact BB4.size); clear ho5 hg5)
              refine hK.out _ _ ?_ (fun hS6 => ?_)
              · (try dsimp only); exact KP.out _ BB5
              clear hK K
              try simp only [Act.put, List.setIfInBounds_toArray, List.set_cons_zero, List.set_cons_succ]
              refine wpAnyH_ready (rs := [41]) (by kernel_rfl) (by simp) ?_
              refine hStep (i := 41) rfl (fun K hK => ?_) AllReadyH.nil
              go_simp
              refine hK.out _ _ ?_ (fun hS6a => ?_)
              · (try dsimp only); exact KP.out _ (BB5.alloc BB5.size _)
              clear hK K
              try simp only [Act.put, List.setIfInBounds_toArray, List.set_cons_zero, List.set_cons_succ]
              refine wpAnyH_ready (rs := [42]) (by kernel_rfl) (by simp) ?_
              refine hStep (i := 42) rfl (fun K hK => ?_) AllReadyH.nil
              (refine step_appendG (v5.alloc (.cells #[.int .i64 x0] 3)) ?_ (.tmp 159) (.tmp 163) ?_ v4.heap.size _ (fwL xs a) [x0] _ rfl a 1 (a + 1) HL.out rfl rfl ⟨v5.heap.size, 0, none⟩ 1 (by simp [Act.eval]) (HO5.out.alloc _) (by simp [Act.eval]) (one_cell (by simp)) (by omega) (Nat.le_trans HZ5.out (by simp)) ?_; rfl; rfl; intro A6 c6 v6 ho6 hg6; have HO6 := Lib.hid ho6; have BB6 := below_grown (BB5.alloc BB5.size _) hg6 (Nat.le_trans BB5.size (by simp)) HOB.out; clear ho6 hg6)
              refine hK.out _ _ ?_ (fun hS6b => ?_)
              · (try dsimp only); exact KP.out _ BB6
              clear hK K
              try simp only [Act.put, List.setIfInBounds_toArray, List.set_cons_zero, List.set_cons_succ]
              refine wpAnyH_ready (rs := [43]) (by kernel_rfl) (by simp) ?_
              refine hStep (i := 43) rfl (fun K hK => ?_) AllReadyH.nil
              go_simp; go_at_call 41; refine (KL.out _ _ _ _ BB6 HO6.out.rd).mono ?_; rintro e v7 ⟨rfl, hb⟩; have BB7 := Below.then BB6 hb; clear hb; try go_wp2_with fail
              refine hK.out _ _ ?_ (fun hS7 => ?_)
              · (try dsimp only); exact KP.out _ BB7
              clear hK K
              try simp only [Act.put, List.setIfInBounds_toArray, List.set_cons_zero, List.set_cons_succ]
              refine hTake (i := 44) (v := ?v44_37) rfl (by kernel_rfl) (by kernel_rfl) (by kernel_rfl) (fun _ _ _ h => h) (Or.inl ⟨by rfl, ?hy44_37⟩) hS7 ?rest44_37
              case hy44_37 =>
                intro W hSw
                (try dsimp only at hSw)
                go_simp
                first | done | (with_reducible rfl)
              try simp only [Act.put, List.setIfInBounds_toArray, List.set_cons_zero, List.set_cons_succ]
              refine hTake (i := 45) (v := ?v45_38) rfl (by kernel_rfl) (by kernel_rfl) (by kernel_rfl) (fun _ _ _ h => h) (Or.inl ⟨by rfl, ?hy45_38⟩) hS7 ?rest45_38
              case hy45_38 =>
                intro W hSw
                (try dsimp only at hSw)
                go_simp
                first | done | (with_reducible rfl)
              try simp only [Act.put, List.setIfInBounds_toArray, List.set_cons_zero, List.set_cons_succ]
              refine hTake (i := 46) (v := ?v46_39) rfl (by kernel_rfl) (by kernel_rfl) (by kernel_rfl) (fun _ _ _ h => h) (Or.inl ⟨by rfl, ?hy46_39⟩) hS7 ?rest46_39
              case hy46_39 =>
                intro W hSw
                (try dsimp only at hSw)
                go_simp
                first | done | (with_reducible rfl)
              try simp only [Act.put, List.setIfInBounds_toArray, List.set_cons_zero, List.set_cons_succ]
              refine wpAnyH_done (by kernel_rfl) ?_ _
              go_wp2
              go_ret
              exact ⟨rfl, Below.then HS13.out.below BB7⟩
            · go_simp
              refine hK.out _ _ ?_ (fun hS6 => ?_)
              · (try dsimp only); exact KP.out _ ((BB4.alloc BB4.size _).alloc (BB4.alloc BB4.size _).size _)
              clear hK K
              try simp only [Act.put, List.setIfInBounds_toArray, List.set_cons_zero, List.set_cons_succ]
              refine wpAnyH_ready (rs := [37]) (by kernel_rfl) (by simp) ?_
              refine hStep (i := 37) rfl (fun K hK => ?_) AllReadyH.nil
              (refine step_appendG ((v4.alloc (.cells #[] 3)).alloc (.cells #[.int .i64 x0] 3)) ?_ (.tmp 157) (.tmp 158) ?_ v4.heap.size (.slice (some ⟨v4.heap.size, 0, none⟩) 0 0) [] (fwL xs a) (fwL xs a) rfl 0 a a rfl HL.out (Nat.zero_add a) ⟨wg, wo, none⟩ cw (by simp [Act.eval]) ((Own.lit v4 v4.heap.size [] (Nat.le_refl _) (by decide)).alloc _) (by simp [Act.eval]) (fun k hk => HWC.out _ ((BB4.alloc BB4.size _).alloc (BB4.alloc BB4.size _).size _) k hk) (by omega) (by first | (simp; done) | (simp; omega)) ?_; rfl; rfl; intro A5 c5 v5 ho5 hg5; have HO5 := Lib.hid ho5; have HZ5 := Lib.hid (show v4.heap.size ≤ v5.heap.size from Nat.le_trans (by first | (simp; done) | (simp; omega)) hg5.size); have HOB := Lib.hid (fun k hk => Nat.le_trans BB4.size (ho5.lt k hk).1); have HE5 := Lib.hid (hg5.cell (a := ⟨v4.heap.size + 1, 0, none⟩) (v := .int .i64 x0) (by simp) (by simp [Value.ownBlock])); have BB5 := below_grown ((BB4.alloc BB4.size _).alloc (BB4.alloc BB4.size _).size _) hg5 (Nat.le_trans BB4.size (by first | (simp; done) | (simp; omega))) (fun k hk => by injection hk with hk; rw [← hk]; exact BB4.size); clear ho5 hg5)
              refine hK.out _ _ ?_ (fun hS6a => ?_)
              · (try dsimp only); exact KP.out _ BB5
              clear hK K
              try simp only [Act.put, List.setIfInBounds_toArray, List.set_cons_zero, List.set_cons_succ]
              refine wpAnyH_ready (rs := [42]) (by kernel_rfl) (by simp) ?_
              refine hStep (i := 42) rfl (fun K hK => ?_) AllReadyH.nil
              (refine step_appendG v5 ?_ (.tmp 159) (.tmp 163) ?_ v4.heap.size _ (fwL xs a) [x0] _ rfl a 1 (a + 1) HL.out rfl rfl ⟨v4.heap.size + 1, 0, none⟩ 1 (by simp [Act.eval]) HO5.out (by simp [Act.eval]) (one_cell HE5.out) (by omega) HZ5.out ?_; rfl; rfl; intro A6 c6 v6 ho6 hg6; have HO6 := Lib.hid ho6; have BB6 := below_grown BB5 hg6 BB5.size HOB.out; clear ho6 hg6)
              refine hK.out _ _ ?_ (fun hS6b => ?_)
              · (try dsimp only); exact KP.out _ BB6
              clear hK K
              try simp only [Act.put, List.setIfInBounds_toArray, List.set_cons_zero, List.set_cons_succ]
              refine wpAnyH_ready (rs := [43]) (by kernel_rfl) (by simp) ?_
              refine hStep (i := 43) rfl (fun K hK => ?_) AllReadyH.nil
              go_simp; go_at_call 41; refine (KL.out _ _ _ _ BB6 HO6.out.rd).mono ?_; rintro e v7 ⟨rfl, hb⟩; have BB7 := Below.then BB6 hb; clear hb; try go_wp2_with fail
              refine hK.out _ _ ?_ (fun hS7 => ?_)
              · (try dsimp only); exact KP.out _ BB7
              clear hK K
              try simp only [Act.put, List.setIfInBounds_toArray, List.set_cons_zero, List.set_cons_succ]
              refine hTake (i := 44) (v := ?v44_40) rfl (by kernel_rfl) (by kernel_rfl) (by kernel_rfl) (fun _ _ _ h => h) (Or.inl ⟨by rfl, ?hy44_40⟩) hS7 ?rest44_40
              case hy44_40 =>
                intro W hSw
                (try dsimp only at hSw)
                go_simp
                first | done | (with_reducible rfl)
              try simp only [Act.put, List.setIfInBounds_toArray, List.set_cons_zero, List.set_cons_succ]
              refine hTake (i := 45) (v := ?v45_41) rfl (by kernel_rfl) (by kernel_rfl) (by kernel_rfl) (fun _ _ _ h => h) (Or.inl ⟨by rfl, ?hy45_41⟩) hS7 ?rest45_41
              case hy45_41 =>
                intro W hSw
                (try dsimp only at hSw)
                go_simp
                first | done | (with_reducible rfl)
              try simp only [Act.put, List.setIfInBounds_toArray, List.set_cons_zero, List.set_cons_succ]
              refine hTake (i := 46) (v := ?v46_42) rfl (by kernel_rfl) (by kernel_rfl) (by kernel_rfl) (fun _ _ _ h => h) (Or.inl ⟨by rfl, ?hy46_42⟩) hS7 ?rest46_42
              case hy46_42 =>
                intro W hSw
                (try dsimp only at hSw)
                go_simp
                first | done | (with_reducible rfl)
              try simp only [Act.put, List.setIfInBounds_toArray, List.set_cons_zero, List.set_cons_succ]
              refine wpAnyH_done (by kernel_rfl) ?_ _
              go_wp2
              go_ret
              exact ⟨rfl, Below.then HS13.out.below BB7⟩
          · go_simp
            refine hK.out _ _ ?_ (fun hS5 => ?_)
            · (try dsimp only); exact KP.out _ (BB4.alloc BB4.size _)
            clear hK K
            try simp only [Act.put, List.setIfInBounds_toArray, List.set_cons_zero, List.set_cons_succ]
            refine wpAnyH_ready (rs := [35]) (by kernel_rfl) (by simp) ?_
            refine hStep (i := 35) rfl (fun K hK => ?_) AllReadyH.nil
            go_simp
            refine hK.out _ _ ?_ (fun hS6 => ?_)
            · (try dsimp only); exact KP.out _ ((BB4.alloc BB4.size _).alloc (BB4.alloc BB4.size _).size _)
            clear hK K
            try simp only [Act.put, List.setIfInBounds_toArray, List.set_cons_zero, List.set_cons_succ]
            refine wpAnyH_ready (rs := [37]) (by kernel_rfl) (by simp) ?_
            refine hStep (i := 37) rfl (fun K hK => ?_) AllReadyH.nil
            (refine step_appendG ((v4.alloc (.cells #[.int .i64 x0] 3)).alloc (.cells #[] 3)) ?_ (.tmp 157) (.tmp 158) ?_ v4.heap.size (.slice (some ⟨v4.heap.size + 1, 0, none⟩) 0 0) [] (fwL xs a) (fwL xs a) rfl 0 a a rfl HL.out (Nat.zero_add a) ⟨wg, wo, none⟩ cw (by simp [Act.eval]) (own_lit1 v4 x0) (by simp [Act.eval]) (fun k hk => HWC.out _ ((BB4.alloc BB4.size _).alloc (BB4.alloc BB4.size _).size _) k hk) (by omega) (by first | (simp; done) | (simp; omega)) ?_; rfl; rfl; intro A5 c5 v5 ho5 hg5; have HO5 := Lib.hid ho5; have HZ5 := Lib.hid (show v4.heap.size ≤ v5.heap.size from Nat.le_trans (by first | (simp; done) | (simp; omega)) hg5.size); have HOB := Lib.hid (fun k hk => Nat.le_trans BB4.size (ho5.lt k hk).1); have HE5 := Lib.hid (hg5.cell (a := ⟨v4.heap.size, 0, none⟩) (v := .int .i64 x0) (by simp) (by simp [Value.ownBlock])); have BB5 := below_grown ((BB4.alloc BB4.size _).alloc (BB4.alloc BB4.size _).size _) hg5 (Nat.le_trans BB4.size (by first | (simp; done) | (simp; omega))) (fun k hk => by injection hk with hk; rw [← hk]; exact Nat.le_succ_of_le BB4.size); clear ho5 hg5)
            refine hK.out _ _ ?_ (fun hS6a => ?_)
            · (try dsimp only); exact KP.out _ BB5
            clear hK K
            try simp only [Act.put, List.setIfInBounds_toArray, List.set_cons_zero, List.set_cons_succ]
            refine wpAnyH_ready (rs := [42]) (by kernel_rfl) (by simp) ?_
            refine hStep (i := 42) rfl (fun K hK => ?_) AllReadyH.nil
            (refine step_appendG v5 ?_ (.tmp 159) (.tmp 163) ?_ v4.heap.size _ (fwL xs a) [x0] _ rfl a 1 (a + 1) HL.out rfl rfl ⟨v4.heap.size, 0, none⟩ 1 (by simp [Act.eval]) HO5.out (by simp [Act.eval]) (one_cell HE5.out) (by omega) HZ5.out ?_; rfl; rfl; intro A6 c6 v6 ho6 hg6; have HO6 := Lib.hid ho6; have BB6 := below_grown BB5 hg6 BB5.size HOB.out; clear ho6 hg6)
            refine hK.out _ _ ?_ (fun hS6b => ?_)
            · (try dsimp only); exact KP.out _ BB6
            clear hK K
            try simp only [Act.put, List.setIfInBounds_toArray, List.set_cons_zero, List.set_cons_succ]
            refine wpAnyH_ready (rs := [43]) (by kernel_rfl) (by simp) ?_
            refine hStep (i := 43) rfl (fun K hK => ?_) AllReadyH.nil
            go_simp; go_at_call 41; refine (KL.out _ _ _ _ BB6 HO6.out.rd).mono ?_; rintro e v7 ⟨rfl, hb⟩; have BB7 := Below.then BB6 hb; clear hb; try go_wp2_with fail
            refine hK.out _ _ ?_ (fun hS7 => ?_)
            · (try dsimp only); exact KP.out _ BB7
            clear hK K
            try simp only [Act.put, List.setIfInBounds_toArray, List.set_cons_zero, List.set_cons_succ]
            refine hTake (i := 44) (v := ?v44_43) rfl (by kernel_rfl) (by kernel_rfl) (by kernel_rfl) (fun _ _ _ h => h) (Or.inl ⟨by rfl, ?hy44_43⟩) hS7 ?rest44_43
            case hy44_43 =>
              intro W hSw
              (try dsimp only at hSw)
              go_simp
              first | done | (with_reducible rfl)
            try simp only [Act.put, List.setIfInBounds_toArray, List.set_cons_zero, List.set_cons_succ]
            refine hTake (i := 45) (v := ?v45_44) rfl (by kernel_rfl) (by kernel_rfl) (by kernel_rfl) (fun _ _ _ h => h) (Or.inl ⟨by rfl, ?hy45_44⟩) hS7 ?rest45_44
            case hy45_44 =>
              intro W hSw
              (try dsimp only at hSw)
              go_simp
              first | done | (with_reducible rfl)
            try simp only [Act.put, List.setIfInBounds_toArray, List.set_cons_zero, List.set_cons_succ]
            refine hTake (i := 46) (v := ?v46_45) rfl (by kernel_rfl) (by kernel_rfl) (by kernel_rfl) (fun _ _ _ h => h) (Or.inl ⟨by rfl, ?hy46_45⟩) hS7 ?rest46_45
            case hy46_45 =>
              intro W hSw
              (try dsimp only at hSw)
              go_simp
              first | done | (with_reducible rfl)
            try simp only [Act.put, List.setIfInBounds_toArray, List.set_cons_zero, List.set_cons_succ]
            refine wpAnyH_done (by kernel_rfl) ?_ _
            go_wp2
            go_ret
            exact ⟨rfl, Below.then HS13.out.below BB7⟩
        · as_aux_lemma =>
          -- heavy
          obtain ⟨i1, i2, i3, i4, i5, i6, i7, i8, i9, i10, d3, d3n, d3p⟩ := half_facts2 hha hn7 hn1 hwcap.1 h3
          have hsb := hSB (by omega)
          subst hsb
          have hK : (K = 0 ∧ decide (0 < K) = false ∧ decide ((0 : Int) < (K : Int)) = false) ∨ (0 < K ∧ decide (0 < K) = true ∧ decide ((0 : Int) < (K : Int)) = true) := by
            by_cases h : 0 < K
            · exact .inr ⟨h, decide_eq_true h, decide_eq_true (by omega)⟩
            · exact .inl ⟨by omega, decide_eq_false h, decide_eq_false (by omega)⟩
          rcases hK with ⟨hK0, hK1, hK2⟩ | ⟨hK0, hK1, hK2⟩
          · rw [hK1] at KS
            refine wp_region_held_drew (S := (fun W => (W.cell? ⟨bx, 0, none⟩ = some (.int .i64 a) ∧ W.cell? ⟨bx, 1, none⟩ = some (.slice Y a cy)) ∧ (W.cell? ⟨bu, 0, none⟩ = some (.int .i64 a) ∧ W.cell? ⟨bu, 1, none⟩ = some (.slice UA a cu)) ∧ (W.cell? ⟨bz, 0, none⟩ = some (.int .i64 a) ∧ W.cell? ⟨bz, 1, none⟩ = some (.slice A2 a d2)) ∧ W.cell? ⟨wg, wo, none⟩ = some (.int .i64 x0))) (by kernel_rfl) (KP.out _ BB0) (fun hS0 => ?_)
            refine hTake (i := 0) (v := ?v0_46) rfl (by kernel_rfl) (by kernel_rfl) (by kernel_rfl) (fun _ _ _ h => h) (Or.inl ⟨by rfl, ?hy0_46⟩) hS0 ?rest0_46
            case hy0_46 =>
              intro W hSw
              (try dsimp only at hSw)
              go_simp
              first | done | (with_reducible rfl)
            try simp only [Act.put, List.setIfInBounds_toArray, List.set_cons_zero, List.set_cons_succ]
            refine hTake (i := 1) (v := ?v1_47) rfl (by kernel_rfl) (by kernel_rfl) (by kernel_rfl) (fun _ _ _ h => h) (Or.inl ⟨by rfl, ?hy1_47⟩) hS0 ?rest1_47
            case hy1_47 =>
              intro W hSw
              (try dsimp only at hSw)
              go_simp
              first | done | (with_reducible rfl)
            try simp only [Act.put, List.setIfInBounds_toArray, List.set_cons_zero, List.set_cons_succ]
            refine hTake (i := 2) (v := ?v2_48) rfl (by kernel_rfl) (by kernel_rfl) (by kernel_rfl) (fun _ _ _ h => h) (Or.inl ⟨by rfl, ?hy2_48⟩) hS0 ?rest2_48
            case hy2_48 =>
              intro W hSw
              (try dsimp only at hSw)
              go_simp
              first | done | (with_reducible rfl)
            try simp only [Act.put, List.setIfInBounds_toArray, List.set_cons_zero, List.set_cons_succ]
            refine hTake (i := 3) (v := ?v3_49) rfl (by kernel_rfl) (by kernel_rfl) (by kernel_rfl) (fun _ _ _ h => h) (Or.inl ⟨by rfl, ?hy3_49⟩) hS0 ?rest3_49
            case hy3_49 =>
              intro W hSw
              (try dsimp only at hSw)
              go_simp
              first | done | (with_reducible rfl)
            try simp only [Act.put, List.setIfInBounds_toArray, List.set_cons_zero, List.set_cons_succ]
            refine hTake (i := 4) (v := ?v4_50) rfl (by kernel_rfl) (by kernel_rfl) (by kernel_rfl) (fun _ _ _ h => h) (Or.inl ⟨by rfl, ?hy4_50⟩) hS0 ?rest4_50
            case hy4_50 =>
              intro W hSw
              (try dsimp only at hSw)
              go_simp
              first | done | (with_reducible rfl)
            try simp only [Act.put, List.setIfInBounds_toArray, List.set_cons_zero, List.set_cons_succ]
            refine wpAnyH_ready (rs := [5]) (by kernel_rfl) (by simp) ?_
            refine hStep (i := 5) rfl (fun K hK => ?_) AllReadyH.nil
            go_simp; go_at_call 50; refine (KU.out _ BB0).mono ?_; rintro e v1 ⟨rfl, hb⟩; have BB1 := Below.then BB0 hb; clear hb; try go_wp2_with fail
            refine hK.out _ _ ?_ (fun hS1 => ?_)
            · (try dsimp only); exact KP.out _ BB1
            clear hK K
            try simp only [Act.put, List.setIfInBounds_toArray, List.set_cons_zero, List.set_cons_succ]
            refine hTake (i := 6) (v := ?v6_51) rfl (by kernel_rfl) (by kernel_rfl) (by kernel_rfl) (fun _ _ _ h => h) (Or.inl ⟨by rfl, ?hy6_51⟩) hS1 ?rest6_51
            case hy6_51 =>
              intro W hSw
              (try dsimp only at hSw)
              go_simp
              first | done | (with_reducible rfl)
            try simp only [Act.put, List.setIfInBounds_toArray, List.set_cons_zero, List.set_cons_succ]
            refine hTake (i := 7) (v := ?v7_52) rfl (by kernel_rfl) (by kernel_rfl) (by kernel_rfl) (fun _ _ _ h => h) (Or.inl ⟨by rfl, ?hy7_52⟩) hS1 ?rest7_52
            case hy7_52 =>
              intro W hSw
              (try dsimp only at hSw)
              go_simp
              first | done | (with_reducible rfl)
            try simp only [Act.put, List.setIfInBounds_toArray, List.set_cons_zero, List.set_cons_succ]
            refine hTake (i := 8) (v := ?v8_53) rfl (by kernel_rfl) (by kernel_rfl) (by kernel_rfl) (fun _ _ _ h => h) (Or.inl ⟨by rfl, ?hy8_53⟩) hS1 ?rest8_53
            case hy8_53 =>
              intro W hSw
              (try dsimp only at hSw)
              go_simp
              first | done | (with_reducible rfl)
            try simp only [Act.put, List.setIfInBounds_toArray, List.set_cons_zero, List.set_cons_succ]
            refine hTake (i := 9) (v := ?v9_54) rfl (by kernel_rfl) (by kernel_rfl) (by kernel_rfl) (fun _ _ _ h => h) (Or.inl ⟨by rfl, ?hy9_54⟩) hS1 ?rest9_54
            case hy9_54 =>
              intro W hSw
              (try dsimp only at hSw)
              go_simp
              first | done | (with_reducible rfl)
            try simp only [Act.put, List.setIfInBounds_toArray, List.set_cons_zero, List.set_cons_succ]
            refine hTake (i := 10) (v := ?v10_55) rfl (by kernel_rfl) (by kernel_rfl) (by kernel_rfl) (fun _ _ _ h => h) (Or.inl ⟨by rfl, ?hy10_55⟩) hS1 ?rest10_55
            case hy10_55 =>
              intro W hSw
              (try dsimp only at hSw)
              go_simp
              first | done | (with_reducible rfl)
            try simp only [Act.put, List.setIfInBounds_toArray, List.set_cons_zero, List.set_cons_succ]
            refine wpAnyH_ready (rs := [11]) (by kernel_rfl) (by simp) ?_
            refine hStep (i := 11) rfl (fun K hK => ?_) AllReadyH.nil
            go_simp; go_at_call 50; refine (KR.out _ BB1).mono ?_; rintro e v2 ⟨rfl, hb⟩; have BB2 := Below.then BB1 hb; clear hb; try go_wp2_with fail
            refine hK.out _ _ ?_ (fun hS2 => ?_)
            · (try dsimp only); exact KP.out _ BB2
            clear hK K
            try simp only [Act.put, List.setIfInBounds_toArray, List.set_cons_zero, List.set_cons_succ]
            refine hTake (i := 12) (v := ?v12_56) rfl (by kernel_rfl) (by kernel_rfl) (by kernel_rfl) (fun _ _ _ h => h) (Or.inl ⟨by rfl, ?hy12_56⟩) hS2 ?rest12_56
            case hy12_56 =>
              intro W hSw
              (try dsimp only at hSw)
              go_simp
              first | done | (with_reducible rfl)
            try simp only [Act.put, List.setIfInBounds_toArray, List.set_cons_zero, List.set_cons_succ]
            refine hTake (i := 13) (v := ?v13_57) rfl (by kernel_rfl) (by kernel_rfl) (by kernel_rfl) (fun _ _ _ h => h) (Or.inl ⟨by rfl, ?hy13_57⟩) hS2 ?rest13_57
            case hy13_57 =>
              intro W hSw
              (try dsimp only at hSw)
              go_simp
              first | done | (with_reducible rfl)
            try simp only [Act.put, List.setIfInBounds_toArray, List.set_cons_zero, List.set_cons_succ]
            refine hTake (i := 14) (v := ?v14_58) rfl (by kernel_rfl) (by kernel_rfl) (by kernel_rfl) (fun _ _ _ h => h) (Or.inl ⟨by rfl, ?hy14_58⟩) hS2 ?rest14_58
            case hy14_58 =>
              intro W hSw
              (try dsimp only at hSw)
              go_simp
              first | done | (with_reducible rfl)
            try simp only [Act.put, List.setIfInBounds_toArray, List.set_cons_zero, List.set_cons_succ]
            refine hTake (i := 15) (v := ?v15_59) rfl (by kernel_rfl) (by kernel_rfl) (by kernel_rfl) (fun _ _ _ h => h) (Or.inl ⟨by rfl, ?hy15_59⟩) hS2 ?rest15_59
            case hy15_59 =>
              intro W hSw
              (try dsimp only at hSw)
              go_simp
              first | done | (with_reducible rfl)
            try simp only [Act.put, List.setIfInBounds_toArray, List.set_cons_zero, List.set_cons_succ]
            refine hTake (i := 16) (v := ?v16_60) rfl (by kernel_rfl) (by kernel_rfl) (by kernel_rfl) (fun _ _ _ h => h) (Or.inl ⟨by rfl, ?hy16_60⟩) hS2 ?rest16_60
            case hy16_60 =>
              intro W hSw
              (try dsimp only at hSw)
              go_simp
              first | done | (with_reducible rfl)
            try simp only [Act.put, List.setIfInBounds_toArray, List.set_cons_zero, List.set_cons_succ]
            refine hTake (i := 17) (v := ?v17_61) rfl (by kernel_rfl) (by kernel_rfl) (by kernel_rfl) (fun _ _ _ h => h) (Or.inl ⟨by rfl, ?hy17_61⟩) hS2 ?rest17_61
            case hy17_61 =>
              intro W hSw
              (try dsimp only at hSw)
              go_simp
              first | done | (with_reducible rfl)
            try simp only [Act.put, List.setIfInBounds_toArray, List.set_cons_zero, List.set_cons_succ]
            refine hTake (i := 18) (v := ?v18_62) rfl (by kernel_rfl) (by kernel_rfl) (by kernel_rfl) (fun _ _ _ h => h) (Or.inl ⟨by rfl, ?hy18_62⟩) hS2 ?rest18_62
            case hy18_62 =>
              intro W hSw
              (try dsimp only at hSw)
              go_simp
              first | done | (with_reducible rfl)
            try simp only [Act.put, List.setIfInBounds_toArray, List.set_cons_zero, List.set_cons_succ]
            refine hTake (i := 19) (v := ?v19_63) rfl (by kernel_rfl) (by kernel_rfl) (by kernel_rfl) (fun _ _ _ h => h) (Or.inl ⟨by rfl, ?hy19_63⟩) hS2 ?rest19_63
            case hy19_63 =>
              intro W hSw
              (try dsimp only at hSw)
              go_simp
              first | done | (with_reducible rfl)
            try simp only [Act.put, List.setIfInBounds_toArray, List.set_cons_zero, List.set_cons_succ]
            refine hTake (i := 20) (v := ?v20_64) rfl (by kernel_rfl) (by kernel_rfl) (by kernel_rfl) (fun _ _ _ h => h) (Or.inl ⟨by rfl, ?hy20_64⟩) hS2 ?rest20_64
            case hy20_64 =>
              intro W hSw
              (try dsimp only at hSw)
              go_simp
              first | done | (with_reducible rfl)
            try simp only [Act.put, List.setIfInBounds_toArray, List.set_cons_zero, List.set_cons_succ]
            refine wpAnyH_ready (rs := [21]) (by kernel_rfl) (by simp) ?_
            refine hStep (i := 21) rfl (fun K hK => ?_) AllReadyH.nil
            go_simp; go_at_call 37; refine (KS.out _ BB2).mono ?_; rintro e v3 ⟨rfl, hb⟩; have BB3 := Below.then BB2 hb; clear hb; try go_wp2_with fail
            refine hK.out _ _ ?_ (fun hS3 => ?_)
            · (try dsimp only); exact KP.out _ BB3
            clear hK K
            try simp only [Act.put, List.setIfInBounds_toArray, List.set_cons_zero, List.set_cons_succ]
            refine hTake (i := 22) (v := ?v22_65) rfl (by kernel_rfl) (by kernel_rfl) (by kernel_rfl) (fun _ _ _ h => h) (Or.inl ⟨by rfl, ?hy22_65⟩) hS3 ?rest22_65
            case hy22_65 =>
              intro W hSw
              (try dsimp only at hSw)
              go_simp
              first | done | (with_reducible rfl)
            try simp only [Act.put, List.setIfInBounds_toArray, List.set_cons_zero, List.set_cons_succ]
            refine hTake (i := 23) (v := ?v23_66) rfl (by kernel_rfl) (by kernel_rfl) (by kernel_rfl) (fun _ _ _ h => h) (Or.inl ⟨by rfl, ?hy23_66⟩) hS3 ?rest23_66
            case hy23_66 =>
              intro W hSw
              (try dsimp only at hSw)
              go_simp
              first | done | (with_reducible rfl)
            try simp only [Act.put, List.setIfInBounds_toArray, List.set_cons_zero, List.set_cons_succ]
            refine hTake (i := 24) (v := ?v24_67) rfl (by kernel_rfl) (by kernel_rfl) (by kernel_rfl) (fun _ _ _ h => h) (Or.inl ⟨by rfl, ?hy24_67⟩) hS3 ?rest24_67
            case hy24_67 =>
              intro W hSw
              (try dsimp only at hSw)
              go_simp
              first | done | (with_reducible rfl)
            try simp only [Act.put, List.setIfInBounds_toArray, List.set_cons_zero, List.set_cons_succ]
            refine hTake (i := 25) (v := ?v25_68) rfl (by kernel_rfl) (by kernel_rfl) (by kernel_rfl) (fun _ _ _ h => h) (Or.inl ⟨by rfl, ?hy25_68⟩) hS3 ?rest25_68
            case hy25_68 =>
              intro W hSw
              (try dsimp only at hSw)
              go_simp
              first | done | (with_reducible rfl)
            try simp only [Act.put, List.setIfInBounds_toArray, List.set_cons_zero, List.set_cons_succ]
            refine hTake (i := 26) (v := ?v26_69) rfl (by kernel_rfl) (by kernel_rfl) (by kernel_rfl) (fun _ _ _ h => h) (Or.inl ⟨by rfl, ?hy26_69⟩) hS3 ?rest26_69
            case hy26_69 =>
              intro W hSw
              (try dsimp only at hSw)
              go_simp
              first | done | (with_reducible rfl)
            try simp only [Act.put, List.setIfInBounds_toArray, List.set_cons_zero, List.set_cons_succ]
            refine hTake (i := 27) (v := ?v27_70) rfl (by kernel_rfl) (by kernel_rfl) (by kernel_rfl) (fun _ _ _ h => h) (Or.inl ⟨by rfl, ?hy27_70⟩) hS3 ?rest27_70
            case hy27_70 =>
              intro W hSw
              (try dsimp only at hSw)
              go_simp
              first | done | (with_reducible rfl)
            try simp only [Act.put, List.setIfInBounds_toArray, List.set_cons_zero, List.set_cons_succ]
            refine hTake (i := 28) (v := ?v28_71) rfl (by kernel_rfl) (by kernel_rfl) (by kernel_rfl) (fun _ _ _ h => h) (Or.inl ⟨by rfl, ?hy28_71⟩) hS3 ?rest28_71
            case hy28_71 =>
              intro W hSw
              (try dsimp only at hSw)
              go_simp
              first | done | (with_reducible rfl)
            try simp only [Act.put, List.setIfInBounds_toArray, List.set_cons_zero, List.set_cons_succ]
            refine hTake (i := 29) (v := ?v29_72) rfl (by kernel_rfl) (by kernel_rfl) (by kernel_rfl) (fun _ _ _ h => h) (Or.inl ⟨by rfl, ?hy29_72⟩) hS3 ?rest29_72
            case hy29_72 =>
              intro W hSw
              (try dsimp only at hSw)
              go_simp
              first | done | (with_reducible rfl)
            try simp only [Act.put, List.setIfInBounds_toArray, List.set_cons_zero, List.set_cons_succ]
            refine hTake (i := 30) (v := ?v30_73) rfl (by kernel_rfl) (by kernel_rfl) (by kernel_rfl) (fun _ _ _ h => h) (Or.inl ⟨by rfl, ?hy30_73⟩) hS3 ?rest30_73
            case hy30_73 =>
              intro W hSw
              (try dsimp only at hSw)
              go_simp
              first | done | (with_reducible rfl)
            try simp only [Act.put, List.setIfInBounds_toArray, List.set_cons_zero, List.set_cons_succ]
            refine wpAnyH_ready (rs := [31]) (by kernel_rfl) (by simp) ?_
            refine hStep (i := 31) rfl (fun K hK => ?_) AllReadyH.nil
            go_simp; go_at_call 41; refine (KH.out _ BB3).mono ?_; rintro e v4 ⟨rfl, hb⟩; have BB4 := Below.then BB3 hb; clear hb; try go_wp2_with fail
            refine hK.out _ _ ?_ (fun hS4 => ?_)
            · (try dsimp only); exact KP.out _ BB4
            clear hK K
            try simp only [Act.put, List.setIfInBounds_toArray, List.set_cons_zero, List.set_cons_succ]
            refine hTake (i := 32) (v := ?v32_74) rfl (by kernel_rfl) (by kernel_rfl) (by kernel_rfl) (fun _ _ _ h => h) (Or.inl ⟨by rfl, ?hy32_74⟩) hS4 ?rest32_74
            case hy32_74 =>
              intro W hSw
              (try dsimp only at hSw)
              go_simp
              first | done | (with_reducible rfl)
            try simp only [Act.put, List.setIfInBounds_toArray, List.set_cons_zero, List.set_cons_succ]
            refine hTake (i := 33) (v := ?v33_75) rfl (by kernel_rfl) (by kernel_rfl) (by kernel_rfl) (fun _ _ _ h => h) (Or.inl ⟨by rfl, ?hy33_75⟩) hS4 ?rest33_75
            case hy33_75 =>
              intro W hSw
              (try dsimp only at hSw)
              go_simp
              first | done | (with_reducible rfl)
            try simp only [Act.put, List.setIfInBounds_toArray, List.set_cons_zero, List.set_cons_succ]
            refine hTake (i := 34) (v := ?v34_76) rfl (by kernel_rfl) (by kernel_rfl) (by kernel_rfl) (fun _ _ _ h => h) (Or.inl ⟨by rfl, ?hy34_76⟩) hS4 ?rest34_76
            case hy34_76 =>
              intro W hSw
              (try dsimp only at hSw)
              go_simp
              first | done | (with_reducible rfl)
            try simp only [Act.put, List.setIfInBounds_toArray, List.set_cons_zero, List.set_cons_succ]
            refine hTake (i := 36) (v := ?v36_77) rfl (by kernel_rfl) (by kernel_rfl) (by kernel_rfl) (fun _ _ _ h => h) (Or.inl ⟨by rfl, ?hy36_77⟩) hS4 ?rest36_77
            case hy36_77 =>
              intro W hSw
              (try dsimp only at hSw)
              go_simp
              first | done | (with_reducible rfl)
            try simp only [Act.put, List.setIfInBounds_toArray, List.set_cons_zero, List.set_cons_succ]
            refine hTake (i := 38) (v := ?v38_78) rfl (by kernel_rfl) (by kernel_rfl) (by kernel_rfl) (fun _ _ _ h => h) (Or.inl ⟨by rfl, ?hy38_78⟩) hS4 ?rest38_78
            case hy38_78 =>
              intro W hSw
              (try dsimp only at hSw)
              go_simp
              first | done | (with_reducible rfl)
            try simp only [Act.put, List.setIfInBounds_toArray, List.set_cons_zero, List.set_cons_succ]
            refine hTake (i := 39) (v := ?v39_79) rfl (by kernel_rfl) (by kernel_rfl) (by kernel_rfl) (fun _ _ _ h => h) (Or.inl ⟨by rfl, ?hy39_79⟩) hS4 ?rest39_79
            case hy39_79 =>
              intro W hSw
              (try dsimp only at hSw)
              go_simp
              first | done | (with_reducible rfl)
            try simp only [Act.put, List.setIfInBounds_toArray, List.set_cons_zero, List.set_cons_succ]
            refine hTake (i := 40) (v := ?v40_80) rfl (by kernel_rfl) (by kernel_rfl) (by kernel_rfl) (fun _ _ _ h => h) (Or.inl ⟨by rfl, ?hy40_80⟩) hS4 ?rest40_80
            case hy40_80 =>
              intro W hSw
              (try dsimp only at hSw)
              go_simp
              first | done | (with_reducible rfl)
            try simp only [Act.put, List.setIfInBounds_toArray, List.set_cons_zero, List.set_cons_succ]
            refine wpAnyH_ready (rs := [35, 41]) (by kernel_rfl) (by simp) ?_
            refine hStep (i := 35) rfl (fun K hK => ?_) (hStep (i := 41) rfl (fun K hK => ?_) AllReadyH.nil)
            · go_simp
              refine hK.out _ _ ?_ (fun hS5 => ?_)
              · (try dsimp only); exact KP.out _ (BB4.alloc BB4.size _)
              clear hK K
              try simp only [Act.put, List.setIfInBounds_toArray, List.set_cons_zero, List.set_cons_succ]
              refine wpAnyH_ready (rs := [37, 41]) (by kernel_rfl) (by simp) ?_
              refine hStep (i := 37) rfl (fun K hK => ?_) (hStep (i := 41) rfl (fun K hK => ?_) AllReadyH.nil)
              · (refine step_appendG (v4.alloc (.cells #[] 3)) ?_ (.tmp 157) (.tmp 158) ?_ v4.heap.size (.slice (some ⟨v4.heap.size, 0, none⟩) 0 0) [] (fwL xs a) (fwL xs a) rfl 0 a a rfl HL.out (Nat.zero_add a) ⟨wg, wo, none⟩ cw (by simp [Act.eval]) (Own.lit v4 v4.heap.size [] (Nat.le_refl _) (by decide)) (by simp [Act.eval]) (fun k hk => HWC.out _ (BB4.alloc BB4.size _) k hk) (by omega) (by simp) ?_; rfl; rfl; intro A5 c5 v5 ho5 hg5; have HO5 := Lib.hid ho5; have HZ5 := Lib.hid (show v4.heap.size ≤ v5.heap.size from Nat.le_trans (by first | (simp; done) | (simp; omega)) hg5.size); have HOB := Lib.hid (fun k hk => Nat.le_trans BB4.size (ho5.lt k hk).1); have BB5 := below_grown (BB4.alloc BB4.size _) hg5 (Nat.le_trans BB4.size (by simp)) (fun k hk => by injection hk with hk; rw [← hk]; exact BB4.size); clear ho5 hg5)
                refine hK.out _ _ ?_ (fun hS6 => ?_)
                · (try dsimp only); exact KP.out _ BB5
                clear hK K
                try simp only [Act.put, List.setIfInBounds_toArray, List.set_cons_zero, List.set_cons_succ]
                refine wpAnyH_ready (rs := [41]) (by kernel_rfl) (by simp) ?_
                refine hStep (i := 41) rfl (fun K hK => ?_) AllReadyH.nil
                go_simp
                refine hK.out _ _ ?_ (fun hS6a => ?_)
                · (try dsimp only); exact KP.out _ (BB5.alloc BB5.size _)
                clear hK K
                try simp only [Act.put, List.setIfInBounds_toArray, List.set_cons_zero, List.set_cons_succ]
                refine wpAnyH_ready (rs := [42]) (by kernel_rfl) (by simp) ?_
                refine hStep (i := 42) rfl (fun K hK => ?_) AllReadyH.nil
                (refine step_appendG (v5.alloc (.cells #[.int .i64 x0] 3)) ?_ (.tmp 159) (.tmp 163) ?_ v4.heap.size _ (fwL xs a) [x0] _ rfl a 1 (a + 1) HL.out rfl rfl ⟨v5.heap.size, 0, none⟩ 1 (by simp [Act.eval]) (HO5.out.alloc _) (by simp [Act.eval]) (one_cell (by simp)) (by omega) (Nat.le_trans HZ5.out (by simp)) ?_; rfl; rfl; intro A6 c6 v6 ho6 hg6; have HO6 := Lib.hid ho6; have BB6 := below_grown (BB5.alloc BB5.size _) hg6 (Nat.le_trans BB5.size (by simp)) HOB.out; clear ho6 hg6)
                refine hK.out _ _ ?_ (fun hS6b => ?_)
                · (try dsimp only); exact KP.out _ BB6
                clear hK K
                try simp only [Act.put, List.setIfInBounds_toArray, List.set_cons_zero, List.set_cons_succ]
                refine wpAnyH_ready (rs := [43]) (by kernel_rfl) (by simp) ?_
                refine hStep (i := 43) rfl (fun K hK => ?_) AllReadyH.nil
                go_simp; go_at_call 41; refine (KL.out _ _ _ _ BB6 HO6.out.rd).mono ?_; rintro e v7 ⟨rfl, hb⟩; have BB7 := Below.then BB6 hb; clear hb; try go_wp2_with fail
                refine hK.out _ _ ?_ (fun hS7 => ?_)
                · (try dsimp only); exact KP.out _ BB7
                clear hK K
                try simp only [Act.put, List.setIfInBounds_toArray, List.set_cons_zero, List.set_cons_succ]
                refine hTake (i := 44) (v := ?v44_81) rfl (by kernel_rfl) (by kernel_rfl) (by kernel_rfl) (fun _ _ _ h => h) (Or.inl ⟨by rfl, ?hy44_81⟩) hS7 ?rest44_81
                case hy44_81 =>
                  intro W hSw
                  (try dsimp only at hSw)
                  go_simp
                  first | done | (with_reducible rfl)
                try simp only [Act.put, List.setIfInBounds_toArray, List.set_cons_zero, List.set_cons_succ]
                refine hTake (i := 45) (v := ?v45_82) rfl (by kernel_rfl) (by kernel_rfl) (by kernel_rfl) (fun _ _ _ h => h) (Or.inl ⟨by rfl, ?hy45_82⟩) hS7 ?rest45_82
                case hy45_82 =>
                  intro W hSw
                  (try dsimp only at hSw)
                  go_simp
                  first | done | (with_reducible rfl)
                try simp only [Act.put, List.setIfInBounds_toArray, List.set_cons_zero, List.set_cons_succ]
                refine hTake (i := 46) (v := ?v46_83) rfl (by kernel_rfl) (by kernel_rfl) (by kernel_rfl) (fun _ _ _ h => h) (Or.inl ⟨by rfl, ?hy46_83⟩) hS7 ?rest46_83
                case hy46_83 =>
                  intro W hSw
                  (try dsimp only at hSw)
                  go_simp
                  first | done | (with_reducible rfl)
                try simp only [Act.put, List.setIfInBounds_toArray, List.set_cons_zero, List.set_cons_succ]
                refine wpAnyH_done (by kernel_rfl) ?_ _
                go_wp2
                go_ret
                exact ⟨rfl, Below.then HS13.out.below BB7⟩
              · go_simp
                refine hK.out _ _ ?_ (fun hS6 => ?_)
                · (try dsimp only); exact KP.out _ ((BB4.alloc BB4.size _).alloc (BB4.alloc BB4.size _).size _)
                clear hK K
                try simp only [Act.put, List.setIfInBounds_toArray, List.set_cons_zero, List.set_cons_succ]
                refine wpAnyH_ready (rs := [37]) (by kernel_rfl) (by simp) ?_
                refine hStep (i := 37) rfl (fun K hK => ?_) AllReadyH.nil
                (refine step_appendG ((v4.alloc (.cells #[] 3)).alloc (.cells #[.int .i64 x0] 3)) ?_ (.tmp 157) (.tmp 158) ?_ v4.heap.size (.slice (some ⟨v4.heap.size, 0, none⟩) 0 0) [] (fwL xs a) (fwL xs a) rfl 0 a a rfl HL.out (Nat.zero_add a) ⟨wg, wo, none⟩ cw (by simp [Act.eval]) ((Own.lit v4 v4.heap.size [] (Nat.le_refl _) (by decide)).alloc _) (by simp [Act.eval]) (fun k hk => HWC.out _ ((BB4.alloc BB4.size _).alloc (BB4.alloc BB4.size _).size _) k hk) (by omega) (by first | (simp; done) | (simp; omega)) ?_; rfl; rfl; intro A5 c5 v5 ho5 hg5; have HO5 := Lib.hid ho5; have HZ5 := Lib.hid (show v4.heap.size ≤ v5.heap.size from Nat.le_trans (by first | (simp; done) | (simp; omega)) hg5.size); have HOB := Lib.hid (fun k hk => Nat.le_trans BB4.size (ho5.lt k hk).1); have HE5 := Lib.hid (hg5.cell (a := ⟨v4.heap.size + 1, 0, none⟩) (v := .int .i64 x0) (by simp) (by simp [Value.ownBlock])); have BB5 := below_grown ((BB4.alloc BB4.size _).alloc (BB4.alloc BB4.size _).size _) hg5 (Nat.le_trans BB4.size (by first | (simp; done) | (simp; omega))) (fun k hk => by injection hk with hk; rw [← hk]; exact BB4.size); clear ho5 hg5)
                refine hK.out _ _ ?_ (fun hS6a => ?_)
                · (try dsimp only); exact KP.out _ BB5
                clear hK K
                try simp only [Act.put, List.setIfInBounds_toArray, List.set_cons_zero, List.set_cons_succ]
                refine wpAnyH_ready (rs := [42]) (by kernel_rfl) (by simp) ?_
                refine hStep (i := 42) rfl (fun K hK => ?_) AllReadyH.nil
                (refine step_appendG v5 ?_ (.tmp 159) (.tmp 163) ?_ v4.heap.size _ (fwL xs a) [x0] _ rfl a 1 (a + 1) HL.out rfl rfl ⟨v4.heap.size + 1, 0, none⟩ 1 (by simp [Act.eval]) HO5.out (by simp [Act.eval]) (one_cell HE5.out) (by omega) HZ5.out ?_; rfl; rfl; intro A6 c6 v6 ho6 hg6; have HO6 := Lib.hid ho6; have BB6 := below_grown BB5 hg6 BB5.size HOB.out; clear ho6 hg6)
                refine hK.out _ _ ?_ (fun hS6b => ?_)
                · (try dsimp only); exact KP.out _ BB6
                clear hK K
                try simp only [Act.put, List.setIfInBounds_toArray, List.set_cons_zero, List.set_cons_succ]
                refine wpAnyH_ready (rs := [43]) (by kernel_rfl) (by simp) ?_
                refine hStep (i := 43) rfl (fun K hK => ?_) AllReadyH.nil
                go_simp; go_at_call 41; refine (KL.out _ _ _ _ BB6 HO6.out.rd).mono ?_; rintro e v7 ⟨rfl, hb⟩; have BB7 := Below.then BB6 hb; clear hb; try go_wp2_with fail
                refine hK.out _ _ ?_ (fun hS7 => ?_)
                · (try dsimp only); exact KP.out _ BB7
                clear hK K
                try simp only [Act.put, List.setIfInBounds_toArray, List.set_cons_zero, List.set_cons_succ]
                refine hTake (i := 44) (v := ?v44_84) rfl (by kernel_rfl) (by kernel_rfl) (by kernel_rfl) (fun _ _ _ h => h) (Or.inl ⟨by rfl, ?hy44_84⟩) hS7 ?rest44_84
                case hy44_84 =>
                  intro W hSw
                  (try dsimp only at hSw)
                  go_simp
                  first | done | (with_reducible rfl)
                try simp only [Act.put, List.setIfInBounds_toArray, List.set_cons_zero, List.set_cons_succ]
                refine hTake (i := 45) (v := ?v45_85) rfl (by kernel_rfl) (by kernel_rfl) (by kernel_rfl) (fun _ _ _ h => h) (Or.inl ⟨by rfl, ?hy45_85⟩) hS7 ?rest45_85
                case hy45_85 =>
                  intro W hSw
                  (try dsimp only at hSw)
                  go_simp
                  first | done | (with_reducible rfl)
                try simp only [Act.put, List.setIfInBounds_toArray, List.set_cons_zero, List.set_cons_succ]
                refine hTake (i := 46) (v := ?v46_86) rfl (by kernel_rfl) (by kernel_rfl) (by kernel_rfl) (fun _ _ _ h => h) (Or.inl ⟨by rfl, ?hy46_86⟩) hS7 ?rest46_86
                case hy46_86 =>
                  intro W hSw
                  (try dsimp only at hSw)
                  go_simp
                  first | done | (with_reducible rfl)
                try simp only [Act.put, List.setIfInBounds_toArray, List.set_cons_zero, List.set_cons_succ]
                refine wpAnyH_done (by kernel_rfl) ?_ _
                go_wp2
                go_ret
                exact ⟨rfl, Below.then HS13.out.below BB7⟩
            · go_simp
              refine hK.out _ _ ?_ (fun hS5 => ?_)
              · (try dsimp only); exact KP.out _ (BB4.alloc BB4.size _)
              clear hK K
              try simp only [Act.put, List.setIfInBounds_toArray, List.set_cons_zero, List.set_cons_succ]
              refine wpAnyH_ready (rs := [35]) (by kernel_rfl) (by simp) ?_
              refine hStep (i := 35) rfl (fun K hK => ?_) AllReadyH.nil
              go_simp
              refine hK.out _ _ ?_ (fun hS6 => ?_)
              · (try dsimp only); exact KP.out _ ((BB4.alloc BB4.size _).alloc (BB4.alloc BB4.size _).size _)
              clear hK K
              try simp only [Act.put, List.setIfInBounds_toArray, List.set_cons_zero, List.set_cons_succ]
              refine wpAnyH_ready (rs := [37]) (by kernel_rfl) (by simp) ?_
              refine hStep (i := 37) rfl (fun K hK => ?_) AllReadyH.nil
              (refine step_appendG ((v4.alloc (.cells #[.int .i64 x0] 3)).alloc (.cells #[] 3)) ?_ (.tmp 157) (.tmp 158) ?_ v4.heap.size (.slice (some ⟨v4.heap.size + 1, 0, none⟩) 0 0) [] (fwL xs a) (fwL xs a) rfl 0 a a rfl HL.out (Nat.zero_add a) ⟨wg, wo, none⟩ cw (by simp [Act.eval]) (own_lit1 v4 x0) (by simp [Act.eval]) (fun k hk => HWC.out _ ((BB4.alloc BB4.size _).alloc (BB4.alloc BB4.size _).size _) k hk) (by omega) (by first | (simp; done) | (simp; omega)) ?_; rfl; rfl; intro A5 c5 v5 ho5 hg5; have HO5 := Lib.hid ho5; have HZ5 := Lib.hid (show v4.heap.size ≤ v5.heap.size from Nat.le_trans (by first | (simp; done) | (simp; omega)) hg5.size); have HOB := Lib.hid (fun k hk => Nat.le_trans BB4.size (ho5.lt k hk).1); have HE5 := Lib.hid (hg5.cell (a := ⟨v4.heap.size, 0, none⟩) (v := .int .i64 x0) (by simp) (by simp [Value.ownBlock])); have BB5 := below_grown ((BB4.alloc BB4.size _).alloc (BB4.alloc BB4.size _).size _) hg5 (Nat.le_trans BB4.size (by first | (simp; done) | (simp; omega))) (fun k hk => by injection hk with hk; rw [← hk]; exact Nat.le_succ_of_le BB4.size); clear ho5 hg5)
              refine hK.out _ _ ?_ (fun hS6a => ?_)
              · (try dsimp only); exact KP.out _ BB5
              clear hK K
              try simp only [Act.put, List.setIfInBounds_toArray, List.set_cons_zero, List.set_cons_succ]
              refine wpAnyH_ready (rs := [42]) (by kernel_rfl) (by simp) ?_
              refine hStep (i := 42) rfl (fun K hK => ?_) AllReadyH.nil
              (refine step_appendG v5 ?_ (.tmp 159) (.tmp 163) ?_ v4.heap.size _ (fwL xs a) [x0] _ rfl a 1 (a + 1) HL.out rfl rfl ⟨v4.heap.size, 0, none⟩ 1 (by simp [Act.eval]) HO5.out (by simp [Act.eval]) (one_cell HE5.out) (by omega) HZ5.out ?_; rfl; rfl; intro A6 c6 v6 ho6 hg6; have HO6 := Lib.hid ho6; have BB6 := below_grown BB5 hg6 BB5.size HOB.out; clear ho6 hg6)
              refine hK.out _ _ ?_ (fun hS6b => ?_)
              · (try dsimp only); exact KP.out _ BB6
              clear hK K
              try simp only [Act.put, List.setIfInBounds_toArray, List.set_cons_zero, List.set_cons_succ]
              refine wpAnyH_ready (rs := [43]) (by kernel_rfl) (by simp) ?_
              refine hStep (i := 43) rfl (fun K hK => ?_) AllReadyH.nil
              go_simp; go_at_call 41; refine (KL.out _ _ _ _ BB6 HO6.out.rd).mono ?_; rintro e v7 ⟨rfl, hb⟩; have BB7 := Below.then BB6 hb; clear hb; try go_wp2_with fail
              refine hK.out _ _ ?_ (fun hS7 => ?_)
              · (try dsimp only); exact KP.out _ BB7
              clear hK K
              try simp only [Act.put, List.setIfInBounds_toArray, List.set_cons_zero, List.set_cons_succ]
              refine hTake (i := 44) (v := ?v44_87) rfl (by kernel_rfl) (by kernel_rfl) (by kernel_rfl) (fun _ _ _ h => h) (Or.inl ⟨by rfl, ?hy44_87⟩) hS7 ?rest44_87
              case hy44_87 =>
                intro W hSw
                (try dsimp only at hSw)
                go_simp
                first | done | (with_reducible rfl)
              try simp only [Act.put, List.setIfInBounds_toArray, List.set_cons_zero, List.set_cons_succ]
              refine hTake (i := 45) (v := ?v45_88) rfl (by kernel_rfl) (by kernel_rfl) (by kernel_rfl) (fun _ _ _ h => h) (Or.inl ⟨by rfl, ?hy45_88⟩) hS7 ?rest45_88
              case hy45_88 =>
                intro W hSw
                (try dsimp only at hSw)
                go_simp
                first | done | (with_reducible rfl)
              try simp only [Act.put, List.setIfInBounds_toArray, List.set_cons_zero, List.set_cons_succ]
              refine hTake (i := 46) (v := ?v46_89) rfl (by kernel_rfl) (by kernel_rfl) (by kernel_rfl) (fun _ _ _ h => h) (Or.inl ⟨by rfl, ?hy46_89⟩) hS7 ?rest46_89
              case hy46_89 =>
                intro W hSw
                (try dsimp only at hSw)
                go_simp
                first | done | (with_reducible rfl)
              try simp only [Act.put, List.setIfInBounds_toArray, List.set_cons_zero, List.set_cons_succ]
              refine wpAnyH_done (by kernel_rfl) ?_ _
              go_wp2
              go_ret
              exact ⟨rfl, Below.then HS13.out.below BB7⟩
          · rw [hK1] at KS
            refine wp_region_held_drew (S := (fun W => (W.cell? ⟨bx, 0, none⟩ = some (.int .i64 a) ∧ W.cell? ⟨bx, 1, none⟩ = some (.slice Y a cy)) ∧ (W.cell? ⟨bu, 0, none⟩ = some (.int .i64 a) ∧ W.cell? ⟨bu, 1, none⟩ = some (.slice UA a cu)) ∧ (W.cell? ⟨bz, 0, none⟩ = some (.int .i64 a) ∧ W.cell? ⟨bz, 1, none⟩ = some (.slice A2 a d2)) ∧ W.cell? ⟨wg, wo, none⟩ = some (.int .i64 x0))) (by kernel_rfl) (KP.out _ BB0) (fun hS0 => ?_)
            refine hTake (i := 0) (v := ?v0_90) rfl (by kernel_rfl) (by kernel_rfl) (by kernel_rfl) (fun _ _ _ h => h) (Or.inl ⟨by rfl, ?hy0_90⟩) hS0 ?rest0_90
            case hy0_90 =>
              intro W hSw
              (try dsimp only at hSw)
              go_simp
              first | done | (with_reducible rfl)
            try simp only [Act.put, List.setIfInBounds_toArray, List.set_cons_zero, List.set_cons_succ]
            refine hTake (i := 1) (v := ?v1_91) rfl (by kernel_rfl) (by kernel_rfl) (by kernel_rfl) (fun _ _ _ h => h) (Or.inl ⟨by rfl, ?hy1_91⟩) hS0 ?rest1_91
            case hy1_91 =>
              intro W hSw
              (try dsimp only at hSw)
              go_simp
              first | done | (with_reducible rfl)
            try simp only [Act.put, List.setIfInBounds_toArray, List.set_cons_zero, List.set_cons_succ]
            refine hTake (i := 2) (v := ?v2_92) rfl (by kernel_rfl) (by kernel_rfl) (by kernel_rfl) (fun _ _ _ h => h) (Or.inl ⟨by rfl, ?hy2_92⟩) hS0 ?rest2_92
            case hy2_92 =>
              intro W hSw
              (try dsimp only at hSw)
              go_simp
              first | done | (with_reducible rfl)
            try simp only [Act.put, List.setIfInBounds_toArray, List.set_cons_zero, List.set_cons_succ]
            refine hTake (i := 3) (v := ?v3_93) rfl (by kernel_rfl) (by kernel_rfl) (by kernel_rfl) (fun _ _ _ h => h) (Or.inl ⟨by rfl, ?hy3_93⟩) hS0 ?rest3_93
            case hy3_93 =>
              intro W hSw
              (try dsimp only at hSw)
              go_simp
              first | done | (with_reducible rfl)
            try simp only [Act.put, List.setIfInBounds_toArray, List.set_cons_zero, List.set_cons_succ]
            refine hTake (i := 4) (v := ?v4_94) rfl (by kernel_rfl) (by kernel_rfl) (by kernel_rfl) (fun _ _ _ h => h) (Or.inl ⟨by rfl, ?hy4_94⟩) hS0 ?rest4_94
            case hy4_94 =>
              intro W hSw
              (try dsimp only at hSw)
              go_simp
              first | done | (with_reducible rfl)
            try simp only [Act.put, List.setIfInBounds_toArray, List.set_cons_zero, List.set_cons_succ]
            refine wpAnyH_ready (rs := [5]) (by kernel_rfl) (by simp) ?_
            refine hStep (i := 5) rfl (fun K hK => ?_) AllReadyH.nil
            go_simp; go_at_call 50; refine (KU.out _ BB0).mono ?_; rintro e v1 ⟨rfl, hb⟩; have BB1 := Below.then BB0 hb; clear hb; try go_wp2_with fail
            refine hK.out _ _ ?_ (fun hS1 => ?_)
            · (try dsimp only); exact KP.out _ BB1
            clear hK K
            try simp only [Act.put, List.setIfInBounds_toArray, List.set_cons_zero, List.set_cons_succ]
            refine hTake (i := 6) (v := ?v6_95) rfl (by kernel_rfl) (by kernel_rfl) (by kernel_rfl) (fun _ _ _ h => h) (Or.inl ⟨by rfl, ?hy6_95⟩) hS1 ?rest6_95
            case hy6_95 =>
              intro W hSw
              (try dsimp only at hSw)
              go_simp
              first | done | (with_reducible rfl)
            try simp only [Act.put, List.setIfInBounds_toArray, List.set_cons_zero, List.set_cons_succ]
            refine hTake (i := 7) (v := ?v7_96) rfl (by kernel_rfl) (by kernel_rfl) (by kernel_rfl) (fun _ _ _ h => h) (Or.inl ⟨by rfl, ?hy7_96⟩) hS1 ?rest7_96
            case hy7_96 =>
              intro W hSw
              (try dsimp only at hSw)
              go_simp
              first | done | (with_reducible rfl)
            try simp only [Act.put, List.setIfInBounds_toArray, List.set_cons_zero, List.set_cons_succ]
            refine hTake (i := 8) (v := ?v8_97) rfl (by kernel_rfl) (by kernel_rfl) (by kernel_rfl) (fun _ _ _ h => h) (Or.inl ⟨by rfl, ?hy8_97⟩) hS1 ?rest8_97
            case hy8_97 =>
              intro W hSw
              (try dsimp only at hSw)
              go_simp
              first | done | (with_reducible rfl)
            try simp only [Act.put, List.setIfInBounds_toArray, List.set_cons_zero, List.set_cons_succ]
            refine hTake (i := 9) (v := ?v9_98) rfl (by kernel_rfl) (by kernel_rfl) (by kernel_rfl) (fun _ _ _ h => h) (Or.inl ⟨by rfl, ?hy9_98⟩) hS1 ?rest9_98
            case hy9_98 =>
              intro W hSw
              (try dsimp only at hSw)
              go_simp
              first | done | (with_reducible rfl)
            try simp only [Act.put, List.setIfInBounds_toArray, List.set_cons_zero, List.set_cons_succ]
            refine hTake (i := 10) (v := ?v10_99) rfl (by kernel_rfl) (by kernel_rfl) (by kernel_rfl) (fun _ _ _ h => h) (Or.inl ⟨by rfl, ?hy10_99⟩) hS1 ?rest10_99
            case hy10_99 =>
              intro W hSw
              (try dsimp only at hSw)
              go_simp
              first | done | (with_reducible rfl)
            try simp only [Act.put, List.setIfInBounds_toArray, List.set_cons_zero, List.set_cons_succ]
            refine wpAnyH_ready (rs := [11]) (by kernel_rfl) (by simp) ?_
            refine hStep (i := 11) rfl (fun K hK => ?_) AllReadyH.nil
            go_simp; go_at_call 50; refine (KR.out _ BB1).mono ?_; rintro e v2 ⟨rfl, hb⟩; have BB2 := Below.then BB1 hb; clear hb; try go_wp2_with fail
            refine hK.out _ _ ?_ (fun hS2 => ?_)
            · (try dsimp only); exact KP.out _ BB2
            clear hK K
            try simp only [Act.put, List.setIfInBounds_toArray, List.set_cons_zero, List.set_cons_succ]
            refine hTake (i := 12) (v := ?v12_100) rfl (by kernel_rfl) (by kernel_rfl) (by kernel_rfl) (fun _ _ _ h => h) (Or.inl ⟨by rfl, ?hy12_100⟩) hS2 ?rest12_100
            case hy12_100 =>
              intro W hSw
              (try dsimp only at hSw)
              go_simp
              first | done | (with_reducible rfl)
            try simp only [Act.put, List.setIfInBounds_toArray, List.set_cons_zero, List.set_cons_succ]
            refine hTake (i := 13) (v := ?v13_101) rfl (by kernel_rfl) (by kernel_rfl) (by kernel_rfl) (fun _ _ _ h => h) (Or.inl ⟨by rfl, ?hy13_101⟩) hS2 ?rest13_101
            case hy13_101 =>
              intro W hSw
              (try dsimp only at hSw)
              go_simp
              first | done | (with_reducible rfl)
            try simp only [Act.put, List.setIfInBounds_toArray, List.set_cons_zero, List.set_cons_succ]
            refine hTake (i := 14) (v := ?v14_102) rfl (by kernel_rfl) (by kernel_rfl) (by kernel_rfl) (fun _ _ _ h => h) (Or.inl ⟨by rfl, ?hy14_102⟩) hS2 ?rest14_102
            case hy14_102 =>
              intro W hSw
              (try dsimp only at hSw)
              go_simp
              first | done | (with_reducible rfl)
            try simp only [Act.put, List.setIfInBounds_toArray, List.set_cons_zero, List.set_cons_succ]
            refine hTake (i := 15) (v := ?v15_103) rfl (by kernel_rfl) (by kernel_rfl) (by kernel_rfl) (fun _ _ _ h => h) (Or.inl ⟨by rfl, ?hy15_103⟩) hS2 ?rest15_103
            case hy15_103 =>
              intro W hSw
              (try dsimp only at hSw)
              go_simp
              first | done | (with_reducible rfl)
            try simp only [Act.put, List.setIfInBounds_toArray, List.set_cons_zero, List.set_cons_succ]
            refine hTake (i := 16) (v := ?v16_104) rfl (by kernel_rfl) (by kernel_rfl) (by kernel_rfl) (fun _ _ _ h => h) (Or.inl ⟨by rfl, ?hy16_104⟩) hS2 ?rest16_104
            case hy16_104 =>
              intro W hSw
              (try dsimp only at hSw)
              go_simp
              first | done | (with_reducible rfl)
            try simp only [Act.put, List.setIfInBounds_toArray, List.set_cons_zero, List.set_cons_succ]
            refine hTake (i := 17) (v := ?v17_105) rfl (by kernel_rfl) (by kernel_rfl) (by kernel_rfl) (fun _ _ _ h => h) (Or.inl ⟨by rfl, ?hy17_105⟩) hS2 ?rest17_105
            case hy17_105 =>
              intro W hSw
              (try dsimp only at hSw)
              go_simp
              first | done | (with_reducible rfl)
            try simp only [Act.put, List.setIfInBounds_toArray, List.set_cons_zero, List.set_cons_succ]
            refine hTake (i := 18) (v := ?v18_106) rfl (by kernel_rfl) (by kernel_rfl) (by kernel_rfl) (fun _ _ _ h => h) (Or.inl ⟨by rfl, ?hy18_106⟩) hS2 ?rest18_106
            case hy18_106 =>
              intro W hSw
              (try dsimp only at hSw)
              go_simp
              first | done | (with_reducible rfl)
            try simp only [Act.put, List.setIfInBounds_toArray, List.set_cons_zero, List.set_cons_succ]
            refine hTake (i := 19) (v := ?v19_107) rfl (by kernel_rfl) (by kernel_rfl) (by kernel_rfl) (fun _ _ _ h => h) (Or.inl ⟨by rfl, ?hy19_107⟩) hS2 ?rest19_107
            case hy19_107 =>
              intro W hSw
              (try dsimp only at hSw)
              go_simp
              first | done | (with_reducible rfl)
            try simp only [Act.put, List.setIfInBounds_toArray, List.set_cons_zero, List.set_cons_succ]
            refine hTake (i := 20) (v := ?v20_108) rfl (by kernel_rfl) (by kernel_rfl) (by kernel_rfl) (fun _ _ _ h => h) (Or.inl ⟨by rfl, ?hy20_108⟩) hS2 ?rest20_108
            case hy20_108 =>
              intro W hSw
              (try dsimp only at hSw)
              go_simp
              first | done | (with_reducible rfl)
            try simp only [Act.put, List.setIfInBounds_toArray, List.set_cons_zero, List.set_cons_succ]
            refine wpAnyH_ready (rs := [21]) (by kernel_rfl) (by simp) ?_
            refine hStep (i := 21) rfl (fun K hK => ?_) AllReadyH.nil
            go_simp; go_at_call 37; refine (KS.out _ BB2).mono ?_; rintro e v3 ⟨rfl, hb⟩; have BB3 := Below.then BB2 hb; clear hb; try go_wp2_with fail
            refine hK.out _ _ ?_ (fun hS3 => ?_)
            · (try dsimp only); exact KP.out _ BB3
            clear hK K
            try simp only [Act.put, List.setIfInBounds_toArray, List.set_cons_zero, List.set_cons_succ]
            refine hTake (i := 22) (v := ?v22_109) rfl (by kernel_rfl) (by kernel_rfl) (by kernel_rfl) (fun _ _ _ h => h) (Or.inl ⟨by rfl, ?hy22_109⟩) hS3 ?rest22_109
            case hy22_109 =>
              intro W hSw
              (try dsimp only at hSw)
              go_simp
              first | done | (with_reducible rfl)
            try simp only [Act.put, List.setIfInBounds_toArray, List.set_cons_zero, List.set_cons_succ]
            refine hTake (i := 23) (v := ?v23_110) rfl (by kernel_rfl) (by kernel_rfl) (by kernel_rfl) (fun _ _ _ h => h) (Or.inl ⟨by rfl, ?hy23_110⟩) hS3 ?rest23_110
            case hy23_110 =>
              intro W hSw
              (try dsimp only at hSw)
              go_simp
              first | done | (with_reducible rfl)
            try simp only [Act.put, List.setIfInBounds_toArray, List.set_cons_zero, List.set_cons_succ]
            refine hTake (i := 24) (v := ?v24_111) rfl (by kernel_rfl) (by kernel_rfl) (by kernel_rfl) (fun _ _ _ h => h) (Or.inl ⟨by rfl, ?hy24_111⟩) hS3 ?rest24_111
            case hy24_111 =>
              intro W hSw
              (try dsimp only at hSw)
              go_simp
              first | done | (with_reducible rfl)
            try simp only [Act.put, List.setIfInBounds_toArray, List.set_cons_zero, List.set_cons_succ]
            refine hTake (i := 25) (v := ?v25_112) rfl (by kernel_rfl) (by kernel_rfl) (by kernel_rfl) (fun _ _ _ h => h) (Or.inl ⟨by rfl, ?hy25_112⟩) hS3 ?rest25_112
            case hy25_112 =>
              intro W hSw
              (try dsimp only at hSw)
              go_simp
              first | done | (with_reducible rfl)
            try simp only [Act.put, List.setIfInBounds_toArray, List.set_cons_zero, List.set_cons_succ]
            refine hTake (i := 26) (v := ?v26_113) rfl (by kernel_rfl) (by kernel_rfl) (by kernel_rfl) (fun _ _ _ h => h) (Or.inl ⟨by rfl, ?hy26_113⟩) hS3 ?rest26_113
            case hy26_113 =>
              intro W hSw
              (try dsimp only at hSw)
              go_simp
              first | done | (with_reducible rfl)
            try simp only [Act.put, List.setIfInBounds_toArray, List.set_cons_zero, List.set_cons_succ]
            refine hTake (i := 27) (v := ?v27_114) rfl (by kernel_rfl) (by kernel_rfl) (by kernel_rfl) (fun _ _ _ h => h) (Or.inl ⟨by rfl, ?hy27_114⟩) hS3 ?rest27_114
            case hy27_114 =>
              intro W hSw
              (try dsimp only at hSw)
              go_simp
              first | done | (with_reducible rfl)
            try simp only [Act.put, List.setIfInBounds_toArray, List.set_cons_zero, List.set_cons_succ]
            refine hTake (i := 28) (v := ?v28_115) rfl (by kernel_rfl) (by kernel_rfl) (by kernel_rfl) (fun _ _ _ h => h) (Or.inl ⟨by rfl, ?hy28_115⟩) hS3 ?rest28_115
            case hy28_115 =>
              intro W hSw
              (try dsimp only at hSw)
              go_simp
              first | done | (with_reducible rfl)
            try simp only [Act.put, List.setIfInBounds_toArray, List.set_cons_zero, List.set_cons_succ]
            refine hTake (i := 29) (v := ?v29_116) rfl (by kernel_rfl) (by kernel_rfl) (by kernel_rfl) (fun _ _ _ h => h) (Or.inl ⟨by rfl, ?hy29_116⟩) hS3 ?rest29_116
            case hy29_116 =>
              intro W hSw
              (try dsimp only at hSw)
              go_simp
              first | done | (with_reducible rfl)
            try simp only [Act.put, List.setIfInBounds_toArray, List.set_cons_zero, List.set_cons_succ]
            refine hTake (i := 30) (v := ?v30_117) rfl (by kernel_rfl) (by kernel_rfl) (by kernel_rfl) (fun _ _ _ h => h) (Or.inl ⟨by rfl, ?hy30_117⟩) hS3 ?rest30_117
            case hy30_117 =>
              intro W hSw
              (try dsimp only at hSw)
              go_simp
              first | done | (with_reducible rfl)
            try simp only [Act.put, List.setIfInBounds_toArray, List.set_cons_zero, List.set_cons_succ]
            refine wpAnyH_ready (rs := [31]) (by kernel_rfl) (by simp) ?_
            refine hStep (i := 31) rfl (fun K hK => ?_) AllReadyH.nil
            go_simp; go_at_call 41; refine (KH.out _ BB3).mono ?_; rintro e v4 ⟨rfl, hb⟩; have BB4 := Below.then BB3 hb; clear hb; try go_wp2_with fail
            refine hK.out _ _ ?_ (fun hS4 => ?_)
            · (try dsimp only); exact KP.out _ BB4
            clear hK K
            try simp only [Act.put, List.setIfInBounds_toArray, List.set_cons_zero, List.set_cons_succ]
            refine hTake (i := 32) (v := ?v32_118) rfl (by kernel_rfl) (by kernel_rfl) (by kernel_rfl) (fun _ _ _ h => h) (Or.inl ⟨by rfl, ?hy32_118⟩) hS4 ?rest32_118
            case hy32_118 =>
              intro W hSw
              (try dsimp only at hSw)
              go_simp
              first | done | (with_reducible rfl)
            try simp only [Act.put, List.setIfInBounds_toArray, List.set_cons_zero, List.set_cons_succ]
            refine hTake (i := 33) (v := ?v33_119) rfl (by kernel_rfl) (by kernel_rfl) (by kernel_rfl) (fun _ _ _ h => h) (Or.inl ⟨by rfl, ?hy33_119⟩) hS4 ?rest33_119
            case hy33_119 =>
              intro W hSw
              (try dsimp only at hSw)
              go_simp
              first | done | (with_reducible rfl)
            try simp only [Act.put, List.setIfInBounds_toArray, List.set_cons_zero, List.set_cons_succ]
            refine hTake (i := 34) (v := ?v34_120) rfl (by kernel_rfl) (by kernel_rfl) (by kernel_rfl) (fun _ _ _ h => h) (Or.inl ⟨by rfl, ?hy34_120⟩) hS4 ?rest34_120
            case hy34_120 =>
              intro W hSw
              (try dsimp only at hSw)
              go_simp
              first | done | (with_reducible rfl)
            try simp only [Act.put, List.setIfInBounds_toArray, List.set_cons_zero, List.set_cons_succ]
            refine hTake (i := 36) (v := ?v36_121) rfl (by kernel_rfl) (by kernel_rfl) (by kernel_rfl) (fun _ _ _ h => h) (Or.inl ⟨by rfl, ?hy36_121⟩) hS4 ?rest36_121
            case hy36_121 =>
              intro W hSw
              (try dsimp only at hSw)
              go_simp
              first | done | (with_reducible rfl)
            try simp only [Act.put, List.setIfInBounds_toArray, List.set_cons_zero, List.set_cons_succ]
            refine hTake (i := 38) (v := ?v38_122) rfl (by kernel_rfl) (by kernel_rfl) (by kernel_rfl) (fun _ _ _ h => h) (Or.inl ⟨by rfl, ?hy38_122⟩) hS4 ?rest38_122
            case hy38_122 =>
              intro W hSw
              (try dsimp only at hSw)
              go_simp
              first | done | (with_reducible rfl)
            try simp only [Act.put, List.setIfInBounds_toArray, List.set_cons_zero, List.set_cons_succ]
            refine hTake (i := 39) (v := ?v39_123) rfl (by kernel_rfl) (by kernel_rfl) (by kernel_rfl) (fun _ _ _ h => h) (Or.inl ⟨by rfl, ?hy39_123⟩) hS4 ?rest39_123
            case hy39_123 =>
              intro W hSw
              (try dsimp only at hSw)
              go_simp
              first | done | (with_reducible rfl)
            try simp only [Act.put, List.setIfInBounds_toArray, List.set_cons_zero, List.set_cons_succ]
            refine hTake (i := 40) (v := ?v40_124) rfl (by kernel_rfl) (by kernel_rfl) (by kernel_rfl) (fun _ _ _ h => h) (Or.inl ⟨by rfl, ?hy40_124⟩) hS4 ?rest40_124
            case hy40_124 =>
              intro W hSw
              (try dsimp only at hSw)
              go_simp
              first | done | (with_reducible rfl)
            try simp only [Act.put, List.setIfInBounds_toArray, List.set_cons_zero, List.set_cons_succ]
            refine wpAnyH_ready (rs := [35, 41]) (by kernel_rfl) (by simp) ?_
            refine hStep (i := 35) rfl (fun K hK => ?_) (hStep (i := 41) rfl (fun K hK => ?_) AllReadyH.nil)
            · go_simp
              refine hK.out _ _ ?_ (fun hS5 => ?_)
              · (try dsimp only); exact KP.out _ (BB4.alloc BB4.size _)
              clear hK K
              try simp only [Act.put, List.setIfInBounds_toArray, List.set_cons_zero, List.set_cons_succ]
              refine wpAnyH_ready (rs := [37, 41]) (by kernel_rfl) (by simp) ?_
              refine hStep (i := 37) rfl (fun K hK => ?_) (hStep (i := 41) rfl (fun K hK => ?_) AllReadyH.nil)
              · (refine step_appendG (v4.alloc (.cells #[] 3)) ?_ (.tmp 157) (.tmp 158) ?_ v4.heap.size (.slice (some ⟨v4.heap.size, 0, none⟩) 0 0) [] (fwL xs a) (fwL xs a) rfl 0 a a rfl HL.out (Nat.zero_add a) ⟨wg, wo, none⟩ cw (by simp [Act.eval]) (Own.lit v4 v4.heap.size [] (Nat.le_refl _) (by decide)) (by simp [Act.eval]) (fun k hk => HWC.out _ (BB4.alloc BB4.size _) k hk) (by omega) (by simp) ?_; rfl; rfl; intro A5 c5 v5 ho5 hg5; have HO5 := Lib.hid ho5; have HZ5 := Lib.hid (show v4.heap.size ≤ v5.heap.size from Nat.le_trans (by first | (simp; done) | (simp; omega)) hg5.size); have HOB := Lib.hid (fun k hk => Nat.le_trans BB4.size (ho5.lt k hk).1); have BB5 := below_grown (BB4.alloc BB4.size _) hg5 (Nat.le_trans BB4.size (by simp)) (fun k hk => by injection hk with hk; rw [← hk]; exact BB4.size); clear ho5 hg5)
                refine hK.out _ _ ?_ (fun hS6 => ?_)
                · (try dsimp only); exact KP.out _ BB5
                clear hK K
                try simp only [Act.put, List.setIfInBounds_toArray, List.set_cons_zero, List.set_cons_succ]
                refine wpAnyH_ready (rs := [41]) (by kernel_rfl) (by simp) ?_
                refine hStep (i := 41) rfl (fun K hK => ?_) AllReadyH.nil
                go_simp
                refine hK.out _ _ ?_ (fun hS6a => ?_)
                · (try dsimp only); exact KP.out _ (BB5.alloc BB5.size _)
                clear hK K
                try simp only [Act.put, List.setIfInBounds_toArray, List.set_cons_zero, List.set_cons_succ]
                refine wpAnyH_ready (rs := [42]) (by kernel_rfl) (by simp) ?_
                refine hStep (i := 42) rfl (fun K hK => ?_) AllReadyH.nil
                (refine step_appendG (v5.alloc (.cells #[.int .i64 x0] 3)) ?_ (.tmp 159) (.tmp 163) ?_ v4.heap.size _ (fwL xs a) [x0] _ rfl a 1 (a + 1) HL.out rfl rfl ⟨v5.heap.size, 0, none⟩ 1 (by simp [Act.eval]) (HO5.out.alloc _) (by simp [Act.eval]) (one_cell (by simp)) (by omega) (Nat.le_trans HZ5.out (by simp)) ?_; rfl; rfl; intro A6 c6 v6 ho6 hg6; have HO6 := Lib.hid ho6; have BB6 := below_grown (BB5.alloc BB5.size _) hg6 (Nat.le_trans BB5.size (by simp)) HOB.out; clear ho6 hg6)
                refine hK.out _ _ ?_ (fun hS6b => ?_)
                · (try dsimp only); exact KP.out _ BB6
                clear hK K
                try simp only [Act.put, List.setIfInBounds_toArray, List.set_cons_zero, List.set_cons_succ]
                refine wpAnyH_ready (rs := [43]) (by kernel_rfl) (by simp) ?_
                refine hStep (i := 43) rfl (fun K hK => ?_) AllReadyH.nil
                go_simp; go_at_call 41; refine (KL.out _ _ _ _ BB6 HO6.out.rd).mono ?_; rintro e v7 ⟨rfl, hb⟩; have BB7 := Below.then BB6 hb; clear hb; try go_wp2_with fail
                refine hK.out _ _ ?_ (fun hS7 => ?_)
                · (try dsimp only); exact KP.out _ BB7
                clear hK K
                try simp only [Act.put, List.setIfInBounds_toArray, List.set_cons_zero, List.set_cons_succ]
                refine hTake (i := 44) (v := ?v44_125) rfl (by kernel_rfl) (by kernel_rfl) (by kernel_rfl) (fun _ _ _ h => h) (Or.inl ⟨by rfl, ?hy44_125⟩) hS7 ?rest44_125
                case hy44_125 =>
                  intro W hSw
                  (try dsimp only at hSw)
                  go_simp
                  first | done | (with_reducible rfl)
                try simp only [Act.put, List.setIfInBounds_toArray, List.set_cons_zero, List.set_cons_succ]
                refine hTake (i := 45) (v := ?v45_126) rfl (by kernel_rfl) (by kernel_rfl) (by kernel_rfl) (fun _ _ _ h => h) (Or.inl ⟨by rfl, ?hy45_126⟩) hS7 ?rest45_126
                case hy45_126 =>
                  intro W hSw
                  (try dsimp only at hSw)
                  go_simp
                  first | done | (with_reducible rfl)
                try simp only [Act.put, List.setIfInBounds_toArray, List.set_cons_zero, List.set_cons_succ]
                refine hTake (i := 46) (v := ?v46_127) rfl (by kernel_rfl) (by kernel_rfl) (by kernel_rfl) (fun _ _ _ h => h) (Or.inl ⟨by rfl, ?hy46_127⟩) hS7 ?rest46_127
                case hy46_127 =>
                  intro W hSw
                  (try dsimp only at hSw)
                  go_simp
                  first | done | (with_reducible rfl)
                try simp only [Act.put, List.setIfInBounds_toArray, List.set_cons_zero, List.set_cons_succ]
                refine wpAnyH_done (by kernel_rfl) ?_ _
                go_wp2
                go_ret
                exact ⟨rfl, Below.then HS13.out.below BB7⟩
              · go_simp
                refine hK.out _ _ ?_ (fun hS6 => ?_)
                · (try dsimp only); exact KP.out _ ((BB4.alloc BB4.size _).alloc (BB4.alloc BB4.size _).size _)
                clear hK K
                try simp only [Act.put, List.setIfInBounds_toArray, List.set_cons_zero, List.set_cons_succ]
                refine wpAnyH_ready (rs := [37]) (by kernel_rfl) (by simp) ?_
                refine hStep (i := 37) rfl (fun K hK => ?_) AllReadyH.nil
                (refine step_appendG ((v4.alloc (.cells #[] 3)).alloc (.cells #[.int .i64 x0] 3)) ?_ (.tmp 157) (.tmp 158) ?_ v4.heap.size (.slice (some ⟨v4.heap.size, 0, none⟩) 0 0) [] (fwL xs a) (fwL xs a) rfl 0 a a rfl HL.out (Nat.zero_add a) ⟨wg, wo, none⟩ cw (by simp [Act.eval]) ((Own.lit v4 v4.heap.size [] (Nat.le_refl _) (by decide)).alloc _) (by simp [Act.eval]) (fun k hk => HWC.out _ ((BB4.alloc BB4.size _).alloc (BB4.alloc BB4.size _).size _) k hk) (by omega) (by first | (simp; done) | (simp; omega)) ?_; rfl; rfl; intro A5 c5 v5 ho5 hg5; have HO5 := Lib.hid ho5; have HZ5 := Lib.hid (show v4.heap.size ≤ v5.heap.size from Nat.le_trans (by first | (simp; done) | (simp; omega)) hg5.size); have HOB := Lib.hid (fun k hk => Nat.le_trans BB4.size (ho5.lt k hk).1); have HE5 := Lib.hid (hg5.cell (a := ⟨v4.heap.size + 1, 0, none⟩) (v := .int .i64 x0) (by simp) (by simp [Value.ownBlock])); have BB5 := below_grown ((BB4.alloc BB4.size _).alloc (BB4.alloc BB4.size _).size _) hg5 (Nat.le_trans BB4.size (by first | (simp; done) | (simp; omega))) (fun k hk => by injection hk with hk; rw [← hk]; exact BB4.size); clear ho5 hg5)
                refine hK.out _ _ ?_ (fun hS6a => ?_)
                · (try dsimp only); exact KP.out _ BB5
                clear hK K
                try simp only [Act.put, List.setIfInBounds_toArray, List.set_cons_zero, List.set_cons_succ]
                refine wpAnyH_ready (rs := [42]) (by kernel_rfl) (by simp) ?_
                refine hStep (i := 42) rfl (fun K hK => ?_) AllReadyH.nil
                (refine step_appendG v5 ?_ (.tmp 159) (.tmp 163) ?_ v4.heap.size _ (fwL xs a) [x0] _ rfl a 1 (a + 1) HL.out rfl rfl ⟨v4.heap.size + 1, 0, none⟩ 1 (by simp [Act.eval]) HO5.out (by simp [Act.eval]) (one_cell HE5.out) (by omega) HZ5.out ?_; rfl; rfl; intro A6 c6 v6 ho6 hg6; have HO6 := Lib.hid ho6; have BB6 := below_grown BB5 hg6 BB5.size HOB.out; clear ho6 hg6)
                refine hK.out _ _ ?_ (fun hS6b => ?_)
                · (try dsimp only); exact KP.out _ BB6
                clear hK K
                try simp only [Act.put, List.setIfInBounds_toArray, List.set_cons_zero, List.set_cons_succ]
                refine wpAnyH_ready (rs := [43]) (by kernel_rfl) (by simp) ?_
                refine hStep (i := 43) rfl (fun K hK => ?_) AllReadyH.nil
                go_simp; go_at_call 41; refine (KL.out _ _ _ _ BB6 HO6.out.rd).mono ?_; rintro e v7 ⟨rfl, hb⟩; have BB7 := Below.then BB6 hb; clear hb; try go_wp2_with fail
                refine hK.out _ _ ?_ (fun hS7 => ?_)
                · (try dsimp only); exact KP.out _ BB7
                clear hK K
                try simp only [Act.put, List.setIfInBounds_toArray, List.set_cons_zero, List.set_cons_succ]
                refine hTake (i := 44) (v := ?v44_128) rfl (by kernel_rfl) (by kernel_rfl) (by kernel_rfl) (fun _ _ _ h => h) (Or.inl ⟨by rfl, ?hy44_128⟩) hS7 ?rest44_128
                case hy44_128 =>
                  intro W hSw
                  (try dsimp only at hSw)
                  go_simp
                  first | done | (with_reducible rfl)
                try simp only [Act.put, List.setIfInBounds_toArray, List.set_cons_zero, List.set_cons_succ]
                refine hTake (i := 45) (v := ?v45_129) rfl (by kernel_rfl) (by kernel_rfl) (by kernel_rfl) (fun _ _ _ h => h) (Or.inl ⟨by rfl, ?hy45_129⟩) hS7 ?rest45_129
                case hy45_129 =>
                  intro W hSw
                  (try dsimp only at hSw)
                  go_simp
                  first | done | (with_reducible rfl)
                try simp only [Act.put, List.setIfInBounds_toArray, List.set_cons_zero, List.set_cons_succ]
                refine hTake (i := 46) (v := ?v46_130) rfl (by kernel_rfl) (by kernel_rfl) (by kernel_rfl) (fun _ _ _ h => h) (Or.inl ⟨by rfl, ?hy46_130⟩) hS7 ?rest46_130
                case hy46_130 =>
                  intro W hSw
                  (try dsimp only at hSw)
                  go_simp
                  first | done | (with_reducible rfl)
                try simp only [Act.put, List.setIfInBounds_toArray, List.set_cons_zero, List.set_cons_succ]
                refine wpAnyH_done (by kernel_rfl) ?_ _
                go_wp2
                go_ret
                exact ⟨rfl, Below.then HS13.out.below BB7⟩
            · go_simp
              refine hK.out _ _ ?_ (fun hS5 => ?_)
              · (try dsimp only); exact KP.out _ (BB4.alloc BB4.size _)
              clear hK K
              try simp only [Act.put, List.setIfInBounds_toArray, List.set_cons_zero, List.set_cons_succ]
              refine wpAnyH_ready (rs := [35]) (by kernel_rfl) (by simp) ?_
              refine hStep (i := 35) rfl (fun K hK => ?_) AllReadyH.nil
              go_simp
              refine hK.out _ _ ?_ (fun hS6 => ?_)
              · (try dsimp only); exact KP.out _ ((BB4.alloc BB4.size _).alloc (BB4.alloc BB4.size _).size _)
              clear hK K
              try simp only [Act.put, List.setIfInBounds_toArray, List.set_cons_zero, List.set_cons_succ]
              refine wpAnyH_ready (rs := [37]) (by kernel_rfl) (by simp) ?_
              refine hStep (i := 37) rfl (fun K hK => ?_) AllReadyH.nil
              (refine step_appendG ((v4.alloc (.cells #[.int .i64 x0] 3)).alloc (.cells #[] 3)) ?_ (.tmp 157) (.tmp 158) ?_ v4.heap.size (.slice (some ⟨v4.heap.size + 1, 0, none⟩) 0 0) [] (fwL xs a) (fwL xs a) rfl 0 a a rfl HL.out (Nat.zero_add a) ⟨wg, wo, none⟩ cw (by simp [Act.eval]) (own_lit1 v4 x0) (by simp [Act.eval]) (fun k hk => HWC.out _ ((BB4.alloc BB4.size _).alloc (BB4.alloc BB4.size _).size _) k hk) (by omega) (by first | (simp; done) | (simp; omega)) ?_; rfl; rfl; intro A5 c5 v5 ho5 hg5; have HO5 := Lib.hid ho5; have HZ5 := Lib.hid (show v4.heap.size ≤ v5.heap.size from Nat.le_trans (by first | (simp; done) | (simp; omega)) hg5.size); have HOB := Lib.hid (fun k hk => Nat.le_trans BB4.size (ho5.lt k hk).1); have HE5 := Lib.hid (hg5.cell (a := ⟨v4.heap.size, 0, none⟩) (v := .int .i64 x0) (by simp) (by simp [Value.ownBlock])); have BB5 := below_grown ((BB4.alloc BB4.size _).alloc (BB4.alloc BB4.size _).size _) hg5 (Nat.le_trans BB4.size (by first | (simp; done) | (simp; omega))) (fun k hk => by injection hk with hk; rw [← hk]; exact Nat.le_succ_of_le BB4.size); clear ho5 hg5)
              refine hK.out _ _ ?_ (fun hS6a => ?_)
              · (try dsimp only); exact KP.out _ BB5
              clear hK K
              try simp only [Act.put, List.setIfInBounds_toArray, List.set_cons_zero, List.set_cons_succ]
              refine wpAnyH_ready (rs := [42]) (by kernel_rfl) (by simp) ?_
              refine hStep (i := 42) rfl (fun K hK => ?_) AllReadyH.nil
              (refine step_appendG v5 ?_ (.tmp 159) (.tmp 163) ?_ v4.heap.size _ (fwL xs a) [x0] _ rfl a 1 (a + 1) HL.out rfl rfl ⟨v4.heap.size, 0, none⟩ 1 (by simp [Act.eval]) HO5.out (by simp [Act.eval]) (one_cell HE5.out) (by omega) HZ5.out ?_; rfl; rfl; intro A6 c6 v6 ho6 hg6; have HO6 := Lib.hid ho6; have BB6 := below_grown BB5 hg6 BB5.size HOB.out; clear ho6 hg6)
              refine hK.out _ _ ?_ (fun hS6b => ?_)
              · (try dsimp only); exact KP.out _ BB6
              clear hK K
              try simp only [Act.put, List.setIfInBounds_toArray, List.set_cons_zero, List.set_cons_succ]
              refine wpAnyH_ready (rs := [43]) (by kernel_rfl) (by simp) ?_
              refine hStep (i := 43) rfl (fun K hK => ?_) AllReadyH.nil
              go_simp; go_at_call 41; refine (KL.out _ _ _ _ BB6 HO6.out.rd).mono ?_; rintro e v7 ⟨rfl, hb⟩; have BB7 := Below.then BB6 hb; clear hb; try go_wp2_with fail
              refine hK.out _ _ ?_ (fun hS7 => ?_)
              · (try dsimp only); exact KP.out _ BB7
              clear hK K
              try simp only [Act.put, List.setIfInBounds_toArray, List.set_cons_zero, List.set_cons_succ]
              refine hTake (i := 44) (v := ?v44_131) rfl (by kernel_rfl) (by kernel_rfl) (by kernel_rfl) (fun _ _ _ h => h) (Or.inl ⟨by rfl, ?hy44_131⟩) hS7 ?rest44_131
              case hy44_131 =>
                intro W hSw
                (try dsimp only at hSw)
                go_simp
                first | done | (with_reducible rfl)
              try simp only [Act.put, List.setIfInBounds_toArray, List.set_cons_zero, List.set_cons_succ]
              refine hTake (i := 45) (v := ?v45_132) rfl (by kernel_rfl) (by kernel_rfl) (by kernel_rfl) (fun _ _ _ h => h) (Or.inl ⟨by rfl, ?hy45_132⟩) hS7 ?rest45_132
              case hy45_132 =>
                intro W hSw
                (try dsimp only at hSw)
                go_simp
                first | done | (with_reducible rfl)
              try simp only [Act.put, List.setIfInBounds_toArray, List.set_cons_zero, List.set_cons_succ]
              refine hTake (i := 46) (v := ?v46_133) rfl (by kernel_rfl) (by kernel_rfl) (by kernel_rfl) (fun _ _ _ h => h) (Or.inl ⟨by rfl, ?hy46_133⟩) hS7 ?rest46_133
              case hy46_133 =>
                intro W hSw
                (try dsimp only at hSw)
                go_simp
                first | done | (with_reducible rfl)
              try simp only [Act.put, List.setIfInBounds_toArray, List.set_cons_zero, List.set_cons_succ]
              refine wpAnyH_done (by kernel_rfl) ?_ _
              go_wp2
              go_ret
              exact ⟨rfl, Below.then HS13.out.below BB7⟩
          -- light
end Go.Proofs.Ytajeledbmnndmaa

