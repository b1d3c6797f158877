/- FnLeagues: the walk of the law. -/
import Derived.Test.YtdmneccfbfdloaaLgC
import Derived.Test.YtdmneccfbfdloaaDraw12
import Derived.Test.YtdmneccfbfdloaaAddR
import Derived.Test.YtdmneccfbfdloaaFrameB
import Derived.Test.YtdmneccfbfdloaaCallS
import Derived.Deep.RegionHeld3
import Derived.Deep.DeepCutAuto
namespace Go.Proofs.Ytdmneccfbfdloaa
open Go.RowKit Go.Sort
set_option maxRecDepth 100000
/-- what stays while the law runs -/
structure LSt (w W : World) (bx n m : Nat) (Y : Option Addr) (cy : Nat) (rs : List R4) (pv tv : Value) : Prop where
  below : Below w.heap.size w W
  box : TBox W bx n (.slice Y m cy)
  res : RdR W (.slice Y m cy) rs
  pts : Rd W pv (ptsLK rs n)
  tab : Rd W tv (tabL n rs)
theorem LSt.next {w W W' : World} {bx n m : Nat} {Y : Option Addr} {cy : Nat} {rs : List R4} {pv tv : Value} (h : LSt w W bx n m Y cy rs pv tv) (hb : Below W.heap.size W W') : LSt w W' bx n m Y cy rs pv tv :=
  ⟨Below.then h.below hb, h.box.below hb, h.res.below hb, h.pts.below hb, h.tab.below hb⟩
theorem tabLK_len {n : Nat} {rs : List R4} (hv : leagueB (n : Int) rs = true) : (tabL n rs).length = n := by rw [tabL_eq hv, ordK_len]
theorem shl_sum (x P c : Nat) (hP : P = 2 ^ c) (hc : c ≤ 61) (h : x + P ≤ 1000) : wrap64 ((x : Int) + wrap64 (2 ^ c)) = ((x + P : Nat) : Int) := by
  rw [shl_nat c hc, ← hP, ← Int.natCast_add]
  exact wrap64_nat _ (by omega)
set_option maxHeartbeats 8000000 in
theorem lawFnLeagues (v0 : Value) (w : World) (h0 : BytesV w w.heap.size v0) :
    Calls Try.prog 6 #[v0] w fun e w' => e = .returned (.bool true) ∧ Below w.heap.size w w' := by
  have HV := Lib.hid h0
  obtain ⟨A0, k0, c0, rfl, hk0, hc0, -⟩ := h0
  unfold maxLen at hc0
  by_cases hn0 : k0 ≤ 1048576
  case neg =>
    have hd0 : decide ((1048576 : Int) < (k0 : Int)) = true := by simp; omega
    go_enter Try.func6, Try.ntmps6
    go_wp2
    go_ret
    exact ⟨rfl, Below.refl _ _⟩
  have hd0 : decide ((1048576 : Int) < (k0 : Int)) = false := by simp; omega
  go_enter Try.func6, Try.ntmps6
  go_wp2_with fail
  refine (makeLeague_any w (.slice A0 k0 c0) 0 0 rfl (by omega) HV.out).mono ?_
  rintro e w1 ⟨n, rs, sl, rfl, h2, h6, hl, hr, ho, hb⟩
  obtain ⟨Y, cy, rfl, -, hcy, -⟩ := ho.form
  have hv : leagueB (n : Int) rs = true := leagueB_true.2 ⟨by omega, by omega, hr⟩
  have LV := Lib.hid hv
  have HR := Lib.hid hr
  have HRD := Lib.hid (ho.rd.below (below_alloc1 w1 (.cells #[.int .i64 n, .slice Y rs.length cy] 36)))
  have HX1 := Lib.hid (TBox.new w1 n (.slice Y rs.length cy) 36)
  have HB1 := Lib.hid (Below.then hb (below_alloc1 w1 (.cells #[.int .i64 n, .slice Y rs.length cy] 36)))
  obtain ⟨bx, hbx⟩ : ∃ bx, bx = w1.heap.size := ⟨_, rfl⟩
  clear hr ho hb hv
  generalize hm : rs.length = m at *
  have HM := Lib.hid hm
  clear hm
  go_wp2_with fail
  rw [← hbx] at HX1 ⊢
  generalize w1.alloc (.cells #[.int .i64 n, .slice Y m cy] 36) = w2 at *
  clear hbx
  have y0 := HX1.out.1
  have y1 := HX1.out.2
  go_wp2_with fail
  refine (cPts LV.out HRD.out).mono ?_
  rintro e w3 ⟨PA, pc, rfl, ho3, hb3⟩
  have HP3 := Lib.hid ho3.rd
  have HX3 := Lib.hid (HX1.out.below hb3)
  have HRD3 := Lib.hid (HRD.out.below hb3)
  have HB3 := Lib.hid (Below.then HB1.out hb3)
  clear ho3 hb3 HX1 HRD HB1 y0 y1
  have y0 := HX3.out.1
  have y1 := HX3.out.2
  go_wp2_with fail
  refine (cTab LV.out HRD3.out).mono ?_
  rintro e w4 ⟨TA, tc, rfl, ho4, hb4⟩
  have HS4 : Hid (LSt w w4 bx n m Y cy rs (.slice PA n pc) (.slice TA n tc)) := Lib.hid ⟨Below.then HB3.out hb4, HX3.out.below hb4, HRD3.out.below hb4, HP3.out.below hb4, ho4.rd⟩
  clear ho4 hb4 HX3 HRD3 HB3 HP3 y0 y1
  have y0 := HS4.out.box.1
  have y1 := HS4.out.box.2
  go_wp2_with fail
  refine (cOk LV.out HS4.out.res).mono ?_
  rintro e w5 ⟨rfl, hb5⟩
  have HS5 := Lib.hid (HS4.out.next hb5)
  clear hb5 HS4 y0 y1
  go_wp2
  go_loopw [7, 8, 9, 10, 11] (fun t7 t8 t9 t10 t11 wr => ∃ (c : Nat) (x7 x8 x9 : Int) (x10 : Nat), c ≤ n ∧ t11 = .int .i64 c ∧ t7 = .int .i64 x7 ∧ t8 = .int .i64 x8 ∧ t9 = .int .i64 x9 ∧ t10 = .int .i64 x10 ∧ 0 ≤ x7 ∧ x7 ≤ 40 * c ∧ 0 ≤ x8 ∧ x8 ≤ 20 * c ∧ -6000 * c ≤ x9 ∧ x9 ≤ 6000 * c ∧ x10 ≤ 64 ∧ Hid (x7 = sumN (fun c => (recN rs c 2 : Int) + recN rs c 1 + recN rs c 0) c) ∧ Hid (x8 = sumN (fun c => (recN rs c 1 : Int)) c) ∧ Hid (x9 = sumN (fun c => madeN rs c - agN rs c) c) ∧ Hid (x10 = setOf (fun c => recN rs c 0 == 0) c) ∧ Hid (LSt w wr bx n m Y cy rs (.slice PA n pc) (.slice TA n tc))) (fun _ _ _ _ t11 _ => n - (intOf t11).toNat)
  case atStart => exact ⟨0, 0, 0, 0, 0, by omega, rfl, rfl, rfl, rfl, rfl, by omega, by omega, by omega, by omega, by omega, by omega, by omega, Lib.hid rfl, Lib.hid rfl, Lib.hid rfl, Lib.hid rfl, HS5⟩
  case round =>
    obtain ⟨wo, rfl⟩ : ∃ x, x = wr := ⟨_, rfl⟩
    obtain ⟨c, x7, x8, x9, x10, hc, rfl, rfl, rfl, rfl, rfl, a7, b7, a8, b8, a9, b9, b10, H7, H8, H9, H10, HS⟩ := hrel
    clear HS5
    by_cases hlt : c < n
    · as_aux_lemma =>
        -- heavy
        have y0 := HS.out.box.1
        have y1 := HS.out.box.2
        have HG := Lib.hid (club_bds LV.out c)
        have HPK := Lib.hid (ptsK_rec rs c)
        have hr2 : recN rs c 2 ≤ m := by rw [← HM.out]; exact List.length_filter_le _ _
        have hr1 : recN rs c 1 ≤ m := by rw [← HM.out]; exact List.length_filter_le _ _
        have hr0 : recN rs c 0 ≤ m := by rw [← HM.out]; exact List.length_filter_le _ _
        have HS7 := Lib.hid (show sumN (fun c => (recN rs c 2 : Int) + recN rs c 1 + recN rs c 0) (c + 1) = sumN (fun c => (recN rs c 2 : Int) + recN rs c 1 + recN rs c 0) c + ((recN rs c 2 : Int) + recN rs c 1 + recN rs c 0) from rfl)
        have HS8 := Lib.hid (show sumN (fun c => (recN rs c 1 : Int)) (c + 1) = sumN (fun c => (recN rs c 1 : Int)) c + (recN rs c 1 : Int) from rfl)
        have HS9 := Lib.hid (show sumN (fun c => madeN rs c - agN rs c) (c + 1) = sumN (fun c => madeN rs c - agN rs c) c + (madeN rs c - agN rs c) from rfl)
        have HS10 := Lib.hid (show setOf (fun c => recN rs c 0 == 0) (c + 1) = setOf (fun c => recN rs c 0 == 0) c + if (recN rs c 0 == 0) = true then 2 ^ c else 0 from rfl)
        have HLT := Lib.hid (setOf_lt (fun c => recN rs c 0 == 0) (c + 1))
        have HPW : Hid (2 ^ (c + 1) ≤ 64) := Lib.hid (Nat.pow_le_pow_right (n := 2) (j := 6) (by decide) (by omega))
        go_wp2_with fail
        refine (cRec LV.out HS.out.res c hlt).mono ?_
        rintro e w6 ⟨rfl, hb6⟩
        have HS6 := Lib.hid (HS.out.next hb6)
        clear hb6 HS y0 y1
        have y0 := HS6.out.box.1
        have y1 := HS6.out.box.2
        generalize recN rs c 2 = d2 at *
        generalize recN rs c 1 = d1 at *
        generalize recN rs c 0 = d0 at *
        go_wp2_with fail
        refine (cGoals LV.out HS6.out.res c hlt).mono ?_
        rintro e w7 ⟨rfl, hb7⟩
        have HS7' := Lib.hid (HS6.out.next hb7)
        clear hb7 HS6 y0 y1
        obtain ⟨A', c', eL, -, -, hLx⟩ := HS7'.out.pts
        injection eL with eL1 eL2 eL3
        subst eL1 eL3
        clear eL2
        rw [ptsLK_len] at hLx
        obtain ⟨pg, po, rfl, hpg, hpx⟩ := hLx (by omega)
        have zp := hpx c hlt
        rw [ptsLK_getD rs n c hlt, HPK.out] at zp
        clear hLx hpx
        have hg := HG.out
        generalize madeN rs c = gm at *
        generalize agN rs c = ga at *
        obtain ⟨-, ⟨g1, g2⟩, ⟨g3, g4⟩⟩ := hg
        obtain ⟨P, hP⟩ : ∃ P, P = 2 ^ c := ⟨_, rfl⟩
        have hP32 : P ≤ 32 := by have := HPW.out; rw [Nat.pow_succ] at this; omega
        rw [← hP] at HS10
        have HN7 : Hid (x7 + (d2 : Int) + (d1 : Int) + (d0 : Int) = sumN (fun c => (recN rs c 2 : Int) + recN rs c 1 + recN rs c 0) (c + 1)) := Lib.hid (by rw [HS7.out, ← H7.out]; simp only [Int.add_assoc])
        have HN8 : Hid (x8 + (d1 : Int) = sumN (fun c => (recN rs c 1 : Int)) (c + 1)) := Lib.hid (by rw [HS8.out, ← H8.out])
        have HN9 : Hid (x9 + gm - ga = sumN (fun c => madeN rs c - agN rs c) (c + 1)) := Lib.hid (by rw [HS9.out, ← H9.out]; exact Int.add_sub_assoc _ _ _)
        clear HG HPK HS7 HS8 HS9 H7 H8 H9
        by_cases h0 : d0 = 0
        · have HN10 : Hid (x10 + P = setOf (fun c => recN rs c 0 == 0) (c + 1)) := Lib.hid (by rw [HS10.out, ← H10.out, h0]; simp)
          have hN64 : x10 + P ≤ 64 := by have h1 := HLT.out; have h2 := HPW.out; rw [← HN10.out] at h1; exact Nat.le_trans (Nat.le_of_lt h1) h2
          have HN7b : Hid (x7 + (d2 : Int) + (d1 : Int) = sumN (fun c => (recN rs c 2 : Int) + recN rs c 1 + recN rs c 0) (c + 1)) := Lib.hid (by rw [← HN7.out, h0]; simp)
          subst h0
          clear HS10 H10 HLT HPW
          have HSH : Hid (wrap64 ((x10 : Int) + wrap64 (2 ^ c)) = ((x10 + P : Nat) : Int)) := Lib.hid (shl_sum x10 P c hP (by omega) (by omega))
          clear hP
          go_wp2
          go_roundw
          case rel => exact ⟨c + 1, _, _, _, x10 + P, by omega, by go_num, rfl, rfl, rfl, by rw [HSH.out], by omega, by omega, by omega, by omega, by omega, by omega, hN64, HN7b, HN8, HN9, HN10, HS7'⟩
          case measure => simp [intOf]; omega
        · have HN10 : Hid (x10 = setOf (fun c => recN rs c 0 == 0) (c + 1)) := Lib.hid (by rw [HS10.out, ← H10.out, if_neg (by simpa using h0)]; rfl)
          clear HS10 H10 HLT HPW hP
          go_wp2
          go_roundw
          case rel => exact ⟨c + 1, _, _, _, x10, by omega, by go_num, rfl, rfl, rfl, rfl, by omega, by omega, by omega, by omega, by omega, by omega, b10, HN7, HN8, HN9, HN10, HS7'⟩
          case measure => simp [intOf]; omega
        -- light
    · as_aux_lemma =>
        obtain rfl : c = n := by omega
        have e7 := H7.out.trans (sum_games HR.out)
        have e9 := H9.out.trans (sum_diff HR.out)
        obtain ⟨d, q1, q2⟩ := sum_draws HR.out
        have e8 := H8.out.trans q1
        rw [HM.out] at e7 q2
        subst e7 e9 e8
        have HPS : Hid ((ptsLK rs c).sum = 3 * (m : Int) - d) := Lib.hid (by rw [pts_sum, q2])
        have HPB := Lib.hid (pts_bd LV.out)
        clear q1 q2 H7 H8 H9
        have y0 := HS.out.box.1
        have y1 := HS.out.box.2
        have k1 := quiet_below (w := wo) (fun W hW => of_same (sum_any W (.slice PA c pc) (ptsLK rs c) 180 ((HS.out.next hW).pts) (by rw [ptsLK_len]; omega) (by omega) HPB.out))
        have k2 := quiet_below (w := wo) (fun W hW => cUnb LV.out (HS.out.next hW).res)
        rw [HPS.out] at k1
        rw [← H10.out] at k2
        have hk1 := k1 0 #[]
        have hk2 := k2 0 #[]
        have et : Int.tdiv (2 * (d : Int)) 2 = d := by rw [Int.tdiv_eq_ediv_of_nonneg (by omega)]; omega
        have ed : (2 * (d : Int)) / 2 = d := by omega
        go_wp2_with fail
        have z0 := cell_regrown y0
        have z1 := cell_regrown y1
        clear y0 y1
        refine wp_region_below (by kernel_rfl) (by kernel_rfl) ?_
        repeat (go_big_quiet_step (first | (with_reducible exact k1 _ _) | (with_reducible exact k2 _ _)))
        refine wpQuiet_nil ?_
        intro wq hbq0
        have HSQ := Lib.hid (HS.out.next hbq0)
        clear hbq0 z0 z1 k1 k2 hk1 hk2 HS et ed HPS HPB H10
        go_wp2
        go_loopw [17] (fun t17 wr => ∃ i : Nat, 1 ≤ i ∧ i ≤ c ∧ t17 = .int .i64 i ∧ Hid (LSt w wr bx c m Y cy rs (.slice PA c pc) (.slice TA c tc))) (fun t17 _ => c - (intOf t17).toNat)
        case atStart => exact ⟨1, by omega, by omega, rfl, HSQ⟩
        case round =>
          obtain ⟨wi, rfl⟩ : ∃ x, x = wr := ⟨_, rfl⟩
          obtain ⟨i, hi1, hi, rfl, HS⟩ := hrel
          clear HSQ
          by_cases hlt : i < c
          · as_aux_lemma =>
              -- heavy
              obtain ⟨j, rfl⟩ : ∃ j, i = j + 1 := ⟨i - 1, by omega⟩
              obtain ⟨a, b, ha, hb, ea, eb, hk⟩ := tab_order LV.out hlt
              have HK := Lib.hid (key_order LV.out hk)
              have HGA := Lib.hid (club_bds LV.out a)
              have HGB := Lib.hid (club_bds LV.out b)
              obtain ⟨A', c', eL, -, -, hLx⟩ := HS.out.tab
              injection eL with eL1 eL2 eL3
              subst eL1 eL3
              clear eL2
              rw [tabLK_len LV.out] at hLx
              obtain ⟨tg, tof, rfl, htg, htx⟩ := hLx (by omega)
              have ta := htx j (by omega)
              have tb := htx (j + 1) (by omega)
              rw [ea] at ta
              rw [eb] at tb
              have y0 := HS.out.box.1
              have y1 := HS.out.box.2
              have ej : IntKind.i64.wrap ((j : Int) + 1 - 1) = (j : Int) := by rw [IntWalk.i64_in _ (by omega)]; omega
              clear hLx htx hk ea eb
              go_wp2_with fail
              refine (cGoals LV.out HS.out.res a ha).mono ?_
              rintro e w6 ⟨rfl, hb6⟩
              have HS6 := Lib.hid (HS.out.next hb6)
              clear hb6 HS y0 y1 ta tb
              have y0 := HS6.out.box.1
              have y1 := HS6.out.box.2
              go_wp2_with fail
              refine (cGoals LV.out HS6.out.res b hb).mono ?_
              rintro e w7 ⟨rfl, hb7⟩
              have HS7 := Lib.hid (HS6.out.next hb7)
              clear hb7 HS6 y0 y1
              obtain ⟨A', c', eL, -, -, hLx⟩ := HS7.out.pts
              injection eL with eL1 eL2 eL3
              subst eL1 eL3
              clear eL2
              rw [ptsLK_len] at hLx
              obtain ⟨pg, po, rfl, hpg, hpx⟩ := hLx (by omega)
              have za := hpx a ha
              have zb := hpx b hb
              rw [ptsLK_getD rs c a ha] at za
              rw [ptsLK_getD rs c b hb] at zb
              clear hLx hpx
              have hk := HK.out
              have hga := HGA.out
              have hgb := HGB.out
              generalize ptsK rs (a : Nat) = pa at *
              generalize ptsK rs (b : Nat) = pb at *
              generalize madeN rs (a : Nat) = ma at *
              generalize madeN rs (b : Nat) = mb at *
              generalize agN rs (a : Nat) = ga at *
              generalize agN rs (b : Nat) = gb at *
              obtain ⟨⟨a1, a2⟩, ⟨a3, a4⟩, ⟨a5, a6⟩⟩ := hga
              obtain ⟨⟨b1, b2⟩, ⟨b3, b4⟩, ⟨b5, b6⟩⟩ := hgb
              clear HK HGA HGB
              have u0 : IntKind.i64.wrap (ma - ga) = ma - ga := IntWalk.i64_in _ (by omega)
              have u1 : IntKind.i64.wrap (mb - gb) = mb - gb := IntWalk.i64_in _ (by omega)
              have c1 : decide (pa < pb) = false := by simp; omega
              have c7 : decide ((a : Int) < 0) = false := by simp
              have c8 : decide ((b : Int) < 0) = false := by simp
              have c9n : decide (c ≤ a) = false := by simp; omega
              have c10n : decide (c ≤ b) = false := by simp; omega
              have c9 : decide ((c : Int) ≤ (a : Int)) = false := by simp; omega
              have c10 : decide ((c : Int) ≤ (b : Int)) = false := by simp; omega
              rcases hk with hk | ⟨rfl, hk | ⟨hk1, hk | ⟨rfl, hk⟩⟩⟩
              all_goals
                try (have c2 : (pa == pb) = false := by simp; omega)
                try (have c3 : decide (ma - ga < mb - gb) = false := by simp; omega)
                try (have c4 : (ma - ga == mb - gb) = false := by simp; omega)
                try (have c4 : (ma - ga == mb - gb) = true := by simp; omega)
                try (have c5 : decide (ma < mb) = false := by simp; omega)
                try (have c6 : (ma == mb) = false := by simp; omega)
                try (have c11n : decide (b < a) = false := by simp; omega)
                try (have c11 : decide ((b : Int) < (a : Int)) = false := by simp; omega)
                go_wp2_with fail
                have z0 := cell_regrown za
                have z1 := cell_regrown zb
                clear za zb
                refine wp_region_below (by kernel_rfl) (by kernel_rfl) ?_
                simp only [List.append_eq, List.cons_append, List.nil_append]
                repeat (go_big_quiet_step (first | (with_reducible fail)))
                refine wpQuiet_nil ?_
                intro wq hbq0
                have HS8 := Lib.hid (HS7.out.next hbq0)
                clear hbq0 z0 z1 HS7
                go_wp2
                go_roundw
                case rel => exact ⟨j + 1 + 1, by omega, by omega, by go_num, HS8⟩
                case measure => simp [intOf]; omega
              -- light
          · as_aux_lemma =>
              obtain rfl : i = c := by omega
              go_wp2
              go_loopw [24, 25] (fun t24 t25 wr => ∃ (a : Nat) (x : Int), a ≤ i ∧ t25 = .int .i64 a ∧ t24 = .int .i64 x ∧ 0 ≤ x ∧ x ≤ 200 * a ∧ Hid (x = sumN (fun a => sumN (fun b => (metN rs a b : Int)) a) a) ∧ Hid (LSt w wr bx i m Y cy rs (.slice PA i pc) (.slice TA i tc))) (fun _ t25 _ => i - (intOf t25).toNat)
              case atStart => exact ⟨0, 0, by omega, rfl, rfl, by omega, by omega, Lib.hid rfl, HS⟩
              case round =>
                obtain ⟨wj, rfl⟩ : ∃ x, x = wr := ⟨_, rfl⟩
                obtain ⟨a, x, ha, rfl, rfl, xa, xb, HX, HS2⟩ := hrel
                clear HS
                by_cases hlt2 : a < i
                · as_aux_lemma =>
                    -- heavy
                    go_wp2
                    go_loopw [24, 26] (fun t24 t26 wr => ∃ (b : Nat) (y : Int), b ≤ a ∧ t26 = .int .i64 b ∧ t24 = .int .i64 y ∧ 0 ≤ y ∧ y ≤ 200 * a + 20 * b ∧ Hid (y = x + sumN (fun b => (metN rs a b : Int)) b) ∧ Hid (LSt w wr bx i m Y cy rs (.slice PA i pc) (.slice TA i tc))) (fun _ t26 _ => a - (intOf t26).toNat)
                    case atStart => exact ⟨0, x, by omega, rfl, rfl, by omega, by omega, Lib.hid (by simp [sumN]), HS2⟩
                    case round =>
                      obtain ⟨wk, rfl⟩ : ∃ x, x = wr := ⟨_, rfl⟩
                      obtain ⟨b, y, hb, rfl, rfl, ya, yb, HY, HS3⟩ := hrel
                      clear HS2
                      by_cases hlt3 : b < a
                      · have y0 := HS3.out.box.1
                        have y1 := HS3.out.box.2
                        have hmt : metN rs a b ≤ m := by rw [← HM.out]; exact List.length_filter_le _ _
                        have HY2 : Hid (y + (metN rs a b : Int) = x + sumN (fun b => (metN rs a b : Int)) (b + 1)) := Lib.hid (by rw [HY.out, sumN]; simp only [Int.add_assoc])
                        go_wp2_with fail
                        refine (cMet LV.out HS3.out.res a b (by omega) (by omega) (by omega)).mono ?_
                        rintro e w6 ⟨rfl, hb6⟩
                        have HS4 := Lib.hid (HS3.out.next hb6)
                        clear hb6 HS3 y0 y1
                        generalize metN rs a b = q at *
                        go_wp2
                        go_roundw
                        case rel => exact ⟨b + 1, _, by omega, by go_num, rfl, by omega, by omega, HY2, HS4⟩
                        case measure => simp [intOf]; omega
                      · obtain rfl : b = a := by omega
                        have HY2 : Hid (y = sumN (fun a => sumN (fun b => (metN rs a b : Int)) a) (b + 1)) := Lib.hid (by rw [HY.out, HX.out, sumN])
                        have yb2 : y ≤ 200 * ((b : Int) + 1) := by omega
                        go_wp2
                        go_roundw
                        case rel => exact ⟨b + 1, y, by omega, by go_num, rfl, by omega, by omega, HY2, HS3⟩
                        case measure => simp [intOf]; omega
                    -- light
                · as_aux_lemma =>
                    obtain rfl : a = i := by omega
                    have ex := HX.out.trans (sum_met HR.out)
                    rw [HM.out] at ex
                    subst ex
                    obtain ⟨P, hP⟩ : ∃ P, P = 2 ^ a := ⟨_, rfl⟩
                    have hP64 : P ≤ 64 := by rw [hP]; exact Nat.pow_le_pow_right (n := 2) (j := 6) (by decide) (by omega)
                    have hP1 : 1 ≤ P := by rw [hP]; exact Nat.one_le_two_pow
                    have HP := Lib.hid hP
                    have HSH : Hid (wrap64 (2 ^ a) = (P : Int)) := Lib.hid (by rw [hP, shl_nat a (by omega)])
                    have HSH2 : Hid (IntKind.i64.wrap (2 ^ a) = (P : Int)) := Lib.hid (by have := i64_shl_one a (by omega); rw [Int.one_mul] at this; rw [hP]; exact this)
                    have hPz : P ≠ 0 := by omega
                    have hPz2 : ¬ P = 0 := by omega
                    have hPi : (P : Int) ≠ 0 := by omega
                    have HBV := Lib.hid ((HV.out.keep (fun p hp => HS2.out.below.cell hp)).mono HS2.out.below.size)
                    have T8 : Hid (Calls Try.prog 29 #[.slice A0 k0 c0, .int .i64 40] wj.drew fun e w' => ∃ x8 : Nat, e = .returned (.int .i64 x8) ∧ (0 : Int) ≤ (x8 : Int) ∧ Hid (LSt w w' bx a m Y cy rs (.slice PA a pc) (.slice TA a tc))) := Lib.hid ((makeNum_any wj.drew (.slice A0 k0 c0) 40 40 rfl (by omega) HBV.out).mono (by
                      rintro e w8 ⟨x8, rfl, hx8, hb8⟩
                      exact ⟨x8, rfl, by omega, Lib.hid (HS2.out.next ⟨hb8.os, hb8.tape, hb8.output, hb8.size, hb8.block⟩)⟩))
                    have HM2 : Hid (∀ x : Nat, Int.tmod (x : Int) (P : Int) = ((x % P : Nat) : Int) ∧ x % P < 2 ^ a) := Lib.hid (fun x => ⟨by rw [Int.tmod_eq_emod_of_nonneg (by omega)]; simp, by rw [← hP]; exact Nat.mod_lt _ (by omega)⟩)
                    clear hP HBV HS2
                    have hEN : ∀ (args : Array Value) (W : World), (callFunc 29 args).run Try.prog W = .ok (.enter 29 args) W := fun args W => by kernel_rfl
                    go_wp2_with fail
                    go_cut [27] (fun t27 wx => ∃ S : Nat, t27 = .int .i64 S ∧ Hid (S < 2 ^ a) ∧ Hid (LSt w wx bx a m Y cy rs (.slice PA a pc) (.slice TA a tc)))
                    case first =>
                      as_aux_lemma =>
                        -- heavy
                        have hsh := HSH.out
                        have hsh2 := HSH2.out
                        go_region_law (first | (refine step_call wj.drew (by rfl) 29 #[.tmp 270, .const (.int .i64 40)] _ (by rfl) #[.slice A0 k0 c0, .int .i64 40] (by simp [Act.eval, Act.put]) hEN (T8.out.mono ?_); rintro e w8 ⟨x8, rfl, hx80, HS8⟩; refine ⟨_, rfl, ?_⟩))
                        all_goals
                          clear hsh hsh2
                          have hm2 := (HM2.out x8).1
                          go_wp2_with fail
                          go_meet
                          case rel => exact ⟨x8 % P, by first | (rw [hm2]; done) | (simp only [hm2]; done) | rfl, Lib.hid (HM2.out x8).2, HS8⟩
                        -- light
                    case rest =>
                      as_aux_lemma =>
                        obtain ⟨S, rfl, HSS, HS⟩ := hcut
                        have y0 := HS.out.box.1
                        have y1 := HS.out.box.2
                        go_wp2_with fail
                        refine (cAm LV.out HS.out.res S HSS.out).mono ?_
                        rintro e w9 ⟨A1, q1, d1, hq1, -, rfl, hb9⟩
                        rw [HM.out] at hq1
                        have HS9 := Lib.hid (HS.out.next (Below.then hb9 (below_alloc1 w9 (.cells #[.int .i64 a, .slice A1 q1 d1] 36))))
                        have HX9 := Lib.hid (TBox.new w9 a (.slice A1 q1 d1) 36)
                        clear hb9 HS y0 y1
                        go_wp2_with fail
                        generalize w9.alloc (.cells #[.int .i64 a, .slice A1 q1 d1] 36) = wb at *
                        generalize w9.heap.size = yb at *
                        have y0 := HS9.out.box.1
                        have y1 := HS9.out.box.2
                        have HD : Hid (Below wb.heap.size wb wb.drew) := Lib.hid (Below.refl wb.heap.size wb).drew
                        have HDA : Hid (Below wb.heap.size wb (wb.drew.alloc (.cells #[.int .i64 0, .slice none 0 0] 36))) := Lib.hid (Below.then HD.out (below_alloc1 wb.drew _))
                        have HBF : Hid (BoxF (wb.drew.alloc (.cells #[.int .i64 0, .slice none 0 0] 36)) wb.heap.size 0 (.slice none 0 0)) := Lib.hid (BoxF.new wb.drew 0 (.slice none 0 0) 36)
                        have ya0 : (wb.alloc (.cells #[.int .i64 0, .slice none 0 0] 36)).cell? ⟨bx, 0, none⟩ = some (.int .i64 a) := (HS9.out.box.below (below_alloc1 wb (.cells #[.int .i64 0, .slice none 0 0] 36))).1
                        have ya1 : (wb.alloc (.cells #[.int .i64 0, .slice none 0 0] 36)).cell? ⟨bx, 1, none⟩ = some (.slice Y m cy) := (HS9.out.box.below (below_alloc1 wb (.cells #[.int .i64 0, .slice none 0 0] 36))).2
                        have TC : Hid (∀ W, Below wb.heap.size wb W → Calls Try.prog 30 #[.agg #[.int .i64 a, .slice Y m cy], .int .i64 ((P - 1 : Nat) : Int)] W fun e w' => ∃ A2 d2, e = .returned (.tuple #[.agg #[.int .i64 a, .slice A2 m d2], .bool true]) ∧ Below W.heap.size W w') := Lib.hid (fun W hW => (cAm LV.out (HS9.out.next hW).res (P - 1) (by rw [HP.out]; have := Nat.one_le_two_pow (n := a); omega)).mono (by
                          rintro e w' ⟨A2, q2, d2, -, h2, h3, h4⟩
                          have := h2 (by rw [HP.out])
                          rw [HM.out] at this
                          subst this
                          exact ⟨A2, d2, h3, h4⟩))
                        have hEA : ∀ (args : Array Value) (W : World), (callFunc 30 args).run Try.prog W = .ok (.enter 30 args) W := fun args W => by kernel_rfl
                        have ep : IntKind.i64.wrap ((P : Int) - 1) = ((P - 1 : Nat) : Int) := by rw [IntWalk.i64_in _ (by omega)]; omega
                        go_cut [30, 31] (fun t30 t31 wx => ∃ (bz : Nat) (A2 : Option Addr) (d2 : Nat), t30 = .pointer (some ⟨bz, 0, none⟩) ∧ t31 = .bool true ∧ Hid (TBox wx bz a (.slice A2 m d2)) ∧ Hid (Below wb.heap.size wb wx))
                        case first =>
                          as_aux_lemma =>
                            -- heavy
                            have hsh := HSH.out
                            have hsh2 := HSH2.out
                            go_region_law (first
                              | (refine step_call wb.drew (by rfl) 30 #[.tmp 282, .tmp 285] _ (by rfl) #[.agg #[.int .i64 a, .slice Y m cy], .int .i64 ((P - 1 : Nat) : Int)] (by simp [Act.eval]) hEA ((TC.out _ HD.out).mono ?_); rintro e w10 ⟨A2, d2, rfl, hb10⟩; refine ⟨_, rfl, ?_⟩; have HB10 := Lib.hid (Below.then HD.out hb10); clear hb10)
                              | (refine step_call (wb.drew.alloc (.cells #[.int .i64 0, .slice none 0 0] 36)) (by rfl) 30 #[.tmp 282, .tmp 285] _ (by rfl) #[.agg #[.int .i64 a, .slice Y m cy], .int .i64 ((P - 1 : Nat) : Int)] (by simp [Act.eval]) hEA ((TC.out _ HDA.out).mono ?_); rintro e w10 ⟨A2, d2, rfl, hb10⟩; refine ⟨_, rfl, ?_⟩; have HB10 := Lib.hid (Below.then HDA.out hb10); have HF10 := Lib.hid (HBF.out.below hb10); have v0 := HF10.out.1.1; have v1 := HF10.out.1.2; have f0 := HF10.out.2 0; have f1 := HF10.out.2 1; clear hb10))
                            all_goals
                              clear hsh hsh2
                              go_wp2_with fail
                              go_meet
                              case rel => first
                                | exact ⟨_, A2, d2, rfl, rfl, Lib.hid (TBox.new w10 a (.slice A2 m d2) 36), Lib.hid (HB10.out.alloc HB10.out.size _)⟩
                                | exact ⟨_, A2, d2, rfl, rfl, Lib.hid (HF10.out.set01 a (.slice A2 m d2)).1, Lib.hid ((HB10.out.setCell (p := ⟨wb.heap.size, 0, none⟩) (Nat.le_refl _) _).setCell (p := ⟨wb.heap.size, 1, none⟩) (Nat.le_refl _) _)⟩
                            -- light
                        case rest =>
                          as_aux_lemma =>
                            obtain ⟨bz, A2, d2, rfl, rfl, HZ, HBZ⟩ := hcut
                            have HS10 := Lib.hid (HS9.out.next HBZ.out)
                            have HX10 := Lib.hid (HX9.out.below HBZ.out)
                            clear HS9 HX9 HBZ HBF HDA HD TC ya0 ya1 y0 y1 T8
                            have CA := cAdd LV.out HS10.out.res (by rw [HM.out]; omega)
                            rw [HM.out] at CA
                            have y0 := HS10.out.box.1
                            have y1 := HS10.out.box.2
                            go_wp2_with fail
                            refine CA.mono ?_
                            rintro e w11 ⟨A3, d3, rfl, ho3, ok3, hb11⟩
                            have HOK := Lib.hid ok3
                            have hb12 := Below.then hb11 (below_alloc1 w11 (.cells #[.int .i64 a, .slice A3 (m + 1) d3] 36))
                            have HS12 := Lib.hid (HS10.out.next hb12)
                            have HX12 := Lib.hid (HX10.out.below hb12)
                            have HZ12 := Lib.hid (HZ.out.below hb12)
                            have HW12 := Lib.hid (TBox.new w11 a (.slice A3 (m + 1) d3) 36)
                            have HR12 := Lib.hid (ho3.rd.below (below_alloc1 w11 (.cells #[.int .i64 a, .slice A3 (m + 1) d3] 36)))
                            clear hb11 hb12 HS10 HX10 HZ y0 y1 ho3 ok3 CA
                            go_wp2_with fail
                            generalize w11.alloc (.cells #[.int .i64 a, .slice A3 (m + 1) d3] 36) = w12 at *
                            generalize w11.heap.size = bw at *
                            have y0 := HW12.out.1
                            have y1 := HW12.out.2
                            go_wp2_with fail
                            refine (cPts HOK.out HR12.out).mono ?_
                            rintro e w13 ⟨QA, qd, rfl, hoq, hb13⟩
                            have HS13 := Lib.hid (HS12.out.next hb13)
                            have HX13 := Lib.hid (HX12.out.below hb13)
                            have HZ13 := Lib.hid (HZ12.out.below hb13)
                            have HQ13 := Lib.hid hoq.rd
                            clear hb13 HS12 HX12 HZ12 HW12 HR12 y0 y1 hoq
                            have y0 := HS13.out.box.1
                            have y1 := HS13.out.box.2
                            go_wp2_with fail
                            refine (implRest a (.slice Y m cy) rs 4 w13 HS13.out.res).mono ?_
                            rintro e w14 ⟨rv, rfl, hor, hb14⟩
                            obtain ⟨RA, rc, rfl, hrc, hrl, hrx⟩ := hor.form
                            have HRX := Lib.hid hrx
                            have HS14 := Lib.hid (HS13.out.next hb14)
                            have HX14 := Lib.hid (HX13.out.below hb14)
                            have HZ14 := Lib.hid (HZ13.out.below hb14)
                            have HQ14 := Lib.hid (HQ13.out.below hb14)
                            have HRF := Lib.hid (rest_four (rs := rs) LV.out h2 h6)
                            have HBD := Lib.hid (s3_bd (restL a rs 4) (fun r hr => rest_third r hr))
                            have HST := Lib.hid (fun (k : Nat) hk => @s3_take (restL a rs 4) k hk)
                            have hrb := (restL_bd a rs 4).1
                            have HTA : Hid (s3 ((restL a rs 4).take (restL a rs 4).length) = s3 (restL a rs 4)) := Lib.hid (by rw [List.take_length])
                            have HRE := Lib.hid (implRest a (.slice Y m cy) rs 4 w14 HS14.out.res)
                            have hnil : (restL a rs 4).length = 0 → restL a rs 4 = [] := fun h => List.eq_nil_of_length_eq_zero h
                            have HNIL := Lib.hid hnil
                            have HRF3 : Hid (∀ k, k < (restL a rs 4).length → ((restL a rs 4).getD k []).length = 3) := Lib.hid (fun k hk => HRF.out.1 _ (by rw [show (restL a rs 4).getD k [] = (restL a rs 4)[k] by simp [hk]]; exact List.getElem_mem _))
                            clear hb14 HS13 HX13 HZ13 HQ13 y0 y1 hor hrx hnil
                            unfold maxLen at hrc
                            generalize hrows : restL a rs 4 = rows at *
                            generalize hrn : rows.length = R at *
                            have HRN := Lib.hid hrn
                            clear hrows hrn
                            go_wp2
                            go_loop [35, 300] (fun t35 t300 => ∃ (k : Nat) (y : Int), k ≤ R ∧ t300 = .int .i64 k ∧ t35 = .int .i64 y ∧ Hid (y = s3 (rows.take k))) (fun _ t300 => R - (intOf t300).toNat)
                            case atStart => exact ⟨0, 0, by omega, rfl, rfl, Lib.hid (by simp [s3])⟩
                            case round =>
                              obtain ⟨k, y, hk, rfl, rfl, HY⟩ := hrel
                              by_cases hlt5 : k < R
                              · obtain ⟨rg, rfl, hrg, hcell⟩ := HRX.out (by omega)
                                obtain ⟨B, dB, zb, ob⟩ := hcell k hlt5
                                have l3 := HRF3.out k hlt5
                                obtain ⟨gB, cB, eB, -, -, -, hcB, -⟩ := ob.at_ l3 (by omega)
                                injection eB with eB1 eB2 eB3
                                subst eB1 eB3
                                clear eB2
                                rw [l3] at zb
                                have z2 := hcB 2 (by omega)
                                have es := HST.out k hlt5
                                have hb1 := HBD.out k hk
                                have hb2 := HBD.out (k + 1) hlt5
                                unfold third at es
                                rw [← HY.out] at es hb1
                                rw [es] at hb2
                                have ES := Lib.hid es
                                clear hcell ob l3 hcB es
                                generalize (rows.getD k []).getD 2 0 = x at *
                                have ea : IntKind.i64.wrap (y + x) = y + x := IntWalk.i64_in _ (by omega)
                                go_wp2
                                go_round
                                case rel => exact ⟨k + 1, y + x, by omega, by go_num, by first | rfl | go_num, Lib.hid ES.out.symm⟩
                                case measure => simp [intOf]; omega
                              · obtain rfl : k = R := by omega
                                have y0 := HS14.out.box.1
                                have y1 := HS14.out.box.2
                                go_wp2_with fail
                                refine HRE.out.mono ?_
                                rintro e w15 ⟨rv, rfl, hor, hb15⟩
                                obtain ⟨RB, rd, rfl, -, -, -⟩ := hor.form
                                have HS15 := Lib.hid (HS14.out.next hb15)
                                have x0 := (HX14.out.below hb15).2
                                have z0 := (HZ14.out.below hb15).2
                                have HQ15 := Lib.hid (HQ14.out.below hb15)
                                rw [HRN.out]
                                clear hb15 HS14 HX14 HZ14 HQ14 y0 y1 hor HRE HRX
                                have y1 := HS15.out.box.2
                                obtain ⟨A', c', eL, -, -, hLx⟩ := HS15.out.pts
                                injection eL with eL1 eL2 eL3
                                subst eL1 eL3
                                clear eL2
                                rw [ptsLK_len] at hLx
                                obtain ⟨pg, po, rfl, hpg, hpx⟩ := hLx (by omega)
                                have p0 := hpx 0 (by omega)
                                have p1 := hpx 1 (by omega)
                                rw [ptsLK_getD rs a 0 (by omega)] at p0
                                rw [ptsLK_getD rs a 1 (by omega)] at p1
                                obtain ⟨A', c', eL, -, -, hLx⟩ := HQ15.out
                                injection eL with eL1 eL2 eL3
                                subst eL1 eL3
                                clear eL2
                                rw [ptsLK_len] at hLx
                                obtain ⟨qg, qo, rfl, hqg, hqx⟩ := hLx (by omega)
                                have q0 := hqx 0 (by omega)
                                have q1' := hqx 1 (by omega)
                                rw [ptsLK_getD (rs ++ [(0, 1, 2, 1)]) a 0 (by omega), show ((0 : Nat) : Int) = 0 from rfl, (new_pts0 rs).1] at q0
                                rw [ptsLK_getD (rs ++ [(0, 1, 2, 1)]) a 1 (by omega), show ((1 : Nat) : Int) = 1 from rfl, (new_pts0 rs).2] at q1'
                                rw [show ((0 : Nat) : Int) = 0 from rfl] at p0
                                rw [show ((1 : Nat) : Int) = 1 from rfl] at p1
                                have hg0 := (club_bds LV.out 0).1
                                rw [show ((0 : Nat) : Int) = 0 from rfl] at hg0
                                obtain ⟨hg1, hg2⟩ := hg0
                                have hrf := HRF.out.2
                                clear hLx hpx hqx HRF HBD HST HRF3 HSH HSH2 HM2
                                generalize ptsK rs 0 = v0 at *
                                generalize ptsK rs 1 = v1 at *
                                rw [Nat.add_zero] at p0 q0
                                obtain ⟨T, hT⟩ : ∃ T : Int, 4 * (a : Int) * ((a : Int) - 1) = T := ⟨_, rfl⟩
                                have hT1 : 0 ≤ T ∧ T ≤ 120 := by
                                  have : a = 2 ∨ a = 3 ∨ a = 4 ∨ a = 5 ∨ a = 6 := by omega
                                  rcases this with rfl | rfl | rfl | rfl | rfl <;> omega
                                obtain ⟨hT1, hT2⟩ := hT1
                                have e0 : IntKind.i64.wrap (v0 + 3) = v0 + 3 := IntWalk.i64_in _ (by omega)
                                have e1 : IntKind.i64.wrap (4 * (a : Int)) = 4 * (a : Int) := IntWalk.i64_in _ (by omega)
                                have e2 : IntKind.i64.wrap ((a : Int) - 1) = (a : Int) - 1 := IntWalk.i64_in _ (by omega)
                                have e3 : IntKind.i64.wrap (4 * (a : Int) * ((a : Int) - 1)) = T := by rw [hT]; exact IntWalk.i64_in _ (by omega)
                                have e4 : Int.tdiv T 2 = T / 2 := Int.tdiv_eq_ediv_of_nonneg hT1
                                have e5 : IntKind.i64.wrap (T / 2 - (m : Int)) = T / 2 - (m : Int) := IntWalk.i64_in _ (by omega)
                                have d1 : decide (q1 ≤ m) = true := by simp; omega
                                have d2' : decide ((q1 : Int) ≤ (m : Int)) = true := by simp; omega
                                rw [hT] at hrf
                                rcases Nat.eq_zero_or_pos k with hk0 | hk0
                                · have r0 : ((k : Int) == 0) = true := by simp; omega
                                  have c0 := cell_regrown y1
                                  have c1 := cell_regrown x0
                                  have c2 := cell_regrown z0
                                  have c3 := cell_regrown p0
                                  have c4 := cell_regrown p1
                                  have c5 := cell_regrown q0
                                  have c6 := cell_regrown q1'
                                  go_wp2_with fail
                                  clear y1 x0 z0 p0 p1 q0 q1'
                                  refine wp_region_below (by kernel_rfl) (by kernel_rfl) ?_
                                  simp only [List.append_eq, List.cons_append, List.nil_append]
                                  repeat (go_big_quiet_step (first | (with_reducible fail)))
                                  refine wpQuiet_nil ?_
                                  intro wq hbq0
                                  have HS16 := Lib.hid (HS15.out.next hbq0)
                                  clear hbq0 c0 c1 c2 c3 c4 c5 c6
                                  go_wp2
                                  go_ret
                                  exact ⟨by simp, HS16.out.below⟩
                                · have r0 : ((k : Int) == 0) = false := by simp; omega
                                  have hyy : y = T / 2 - (m : Int) := by
                                    have h1 := HY.out
                                    rw [HTA.out] at h1
                                    rcases hrf with h | h
                                    · have h2 := HRN.out
                                      rw [h] at h2
                                      simp at h2
                                      omega
                                    · rw [HM.out] at h
                                      rw [h1, h]
                                  subst hyy
                                  have c0 := cell_regrown y1
                                  have c1 := cell_regrown x0
                                  have c2 := cell_regrown z0
                                  have c3 := cell_regrown p0
                                  have c4 := cell_regrown p1
                                  have c5 := cell_regrown q0
                                  have c6 := cell_regrown q1'
                                  go_wp2_with fail
                                  clear y1 x0 z0 p0 p1 q0 q1'
                                  refine wp_region_below (by kernel_rfl) (by kernel_rfl) ?_
                                  simp only [List.append_eq, List.cons_append, List.nil_append]
                                  repeat (go_big_quiet_step (first | (with_reducible fail)))
                                  refine wpQuiet_nil ?_
                                  intro wq hbq0
                                  have HS16 := Lib.hid (HS15.out.next hbq0)
                                  clear hbq0 c0 c1 c2 c3 c4 c5 c6
                                  go_wp2
                                  go_ret
                                  exact ⟨by simp, HS16.out.below⟩
end Go.Proofs.Ytdmneccfbfdloaa
