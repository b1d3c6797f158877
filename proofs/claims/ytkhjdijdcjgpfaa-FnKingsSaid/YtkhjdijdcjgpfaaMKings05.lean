/- Texts put together: PartO, TrOn, BkF, LwS, RowsL, TrC0, Clone, Flip, FlipT, AllP, KgP. -/
import Derived.Test.YtkhjdijdcjgpfaaMKings04
import Derived.Test.YtkhjdijdcjgpfaaMKings01
import Derived.Deep.RegionHeld3
import Derived.Test.YtkhjdijdcjgpfaaMKings02
import Derived.Test.YtkhjdijdcjgpfaaMKings03
import Derived.Deep.RegionLawGrows
namespace Go.Proofs.Ytkhjdijdcjgpfaa
open Go.RowKit Go.Sort
set_option maxRecDepth 100000
theorem bit_test0 (S d : Nat) : (bits BinOp.and IntKind.i64 ((S : Int) / 2 ^ d) 1 == 0) = !S.testBit d := by
  have h := bit_test S d
  rw [i64_and_one] at h ⊢
  have h2 : ((S : Int) / 2 ^ d) % 2 = 0 ∨ ((S : Int) / 2 ^ d) % 2 = 1 := by omega
  rw [← h]
  rcases h2 with h2 | h2 <;> rw [h2] <;> rfl
theorem full_all {n S : Nat} (hS : S < 2 ^ n) (h : ∀ a, a < n → S.testBit a = true) : S = 2 ^ n - 1 := Nat.eq_of_testBit_eq fun c => by
  rw [testBit_full]
  rcases Nat.lt_or_ge c n with hc | hc
  · rw [h c hc]; simp [hc]
  · rw [Nat.testBit_lt_two_pow (Nat.lt_of_lt_of_le hS (Nat.pow_le_pow_right (by decide) hc))]
    simp; omega
theorem cell_new1' (w : World) (x : Value) (t : TypeId) : (w.alloc (.cells #[x] t)).cell? ⟨w.heap.size, 0, none⟩ = some x := by simp
theorem clo_zero (xs : List Int) : clo xs 0 := fun b c h _ => by simp at h
theorem clo_full {s : Int} {xs : List Int} (hp : tourP s xs) : clo xs (2 ^ xs.length - 1) := fun b c h hc => by
  rw [testBit_full] at h ⊢
  have hb : b < xs.length := by simpa using h
  rcases Nat.lt_or_ge c xs.length with h1 | h1
  · simpa using h1
  · rw [wins_hi hp hb h1] at hc; cases hc
def partP (a : Nat) (x : Int) : Bool := x.toNat.testBit a
noncomputable def partI (s : Int) (xs : List Int) (a : Int) : Int := if (tourB s xs && inB a 0 (s - 1)) = true then findI (partP a.toNat) (nI (partsN xs (2 ^ xs.length - 1))) else -1
set_option maxHeartbeats 4000000 in
theorem parts_any (n : Nat) (sl : Value) (xs : List Int) (hp : tourP n xs) (w : World) (h : Rd w sl xs) :
    Calls Try.prog 79 #[.agg #[.int .i64 n, sl]] w fun e w' => ∃ v', e = .returned v' ∧ Own w' w.heap.size v' (nI (partsN xs (2 ^ xs.length - 1))) ∧ Below w.heap.size w w' := by
  have hs := hp.1
  have hsl := hp.2.1
  have HR := Lib.hid h
  have HP := Lib.hid hp
  have hn : xs.length = n := by omega
  have hn8 : 1 ≤ n ∧ n ≤ 8 := by omega
  have hp8 := pow_le hn8.2
  obtain ⟨F1, F2, F3⟩ := ordS_facts xs
  rw [hn] at F1 F2 F3
  have HF1 := Lib.hid F1
  have HF2 := Lib.hid F2
  have HF3 := Lib.hid F3
  have HOL := Lib.hid (show (ordS xs).length = n by rw [ordS_len, hn])
  have HRF := Lib.hid (fun a (ha : a < n) => reach_facts hp (a := a) (by omega))
  have HPM := Lib.hid (fun K x (hK : K < 2 ^ n) (hc : clo xs K) (hx : x < n) hnn hlow => part_more hp (K := K) (x := x) (by rw [hn]; exact hK) hc (by rw [hn]; exact hx) hnn hlow)
  have HPS := Lib.hid (fun S (hS : S < 2 ^ n) (hc : clo xs S) h0 => partsN_step hp (S := S) (by rw [hn]; exact hS) hc h0)
  have HN := Lib.hid hn
  clear h F1 F2 F3 hp
  rw [HN.out] at HRF HPM HPS
  clear hn hsl hs
  go_enter Try.func79, Try.ntmps79
  go_wp2_with fail
  have b0 := below_alloc1 w (.cells #[.int .i64 n, sl] 25)
  have x0 := TBox.new w n (sl) 25
  generalize w.alloc (.cells #[.int .i64 n, sl] 25) = w0 at *
  have HX0 := Lib.hid x0
  have HB0 := Lib.hid b0
  clear x0 b0
  have y0_0 := HX0.out.1
  have y1_0 := HX0.out.2
  go_wp2_with fail
  refine (byScore_any n sl xs HP.out w0 (HR.out.below HB0.out)).mono ?_
  rintro e w1 ⟨v1, rfl, ho1, hb1⟩
  obtain ⟨g, c, rfl, hbg, hc, hnc, hcell, -⟩ := ho1.at_ (n := n) HOL.out (by omega)
  unfold maxLen at hc
  have hg1 := (ho1.lt g rfl).2
  have HCC := Lib.hid hcell
  have HB1 := Lib.hid (Below.then HB0.out hb1)
  have HX1 := Lib.hid (HX0.out.below hb1)
  clear ho1 hb1 hcell HB0 HX0 y0_0 y1_0
  go_wp2
  go_loopw [3, 4, 6] (fun v k i wr => ∃ (t K : Nat) (L : List Nat), t ≤ n ∧ i = .int .i64 ((t : Int) - 1) ∧ k = .int .i64 K ∧ K < 2 ^ n ∧ Hid (clo xs K) ∧ Hid (∀ j, t ≤ j → j < n → ∀ a : Nat, (ordS xs).getD j 0 = (a : Int) → K.testBit a = true) ∧ Hid (L.reverse = partsN xs K) ∧ L.length + t ≤ n ∧ Hid (Own wr w1.heap.size v (nI L)) ∧ Hid (Below w1.heap.size w1 wr)) (fun _ _ i _ => ((intOf i) + 1).toNat)
  case atStart => exact ⟨n, 0, [], Nat.le_refl _, rfl, rfl, Nat.two_pow_pos n, clo_zero xs, fun j h1 h2 => absurd h2 (by omega), by rw [partsN_zero]; rfl, by simp, Own.nil_ _ _, Below.refl _ _⟩
  case round =>
    obtain ⟨wo, rfl⟩ : ∃ x, x = wr := ⟨_, rfl⟩
    obtain ⟨t, K, L, ht, rfl, rfl, hK, HC, HKN, HL, hLl, HO, HB⟩ := hrel
    by_cases ht0 : 0 < t
    · obtain ⟨u, rfl⟩ : ∃ u, t = u + 1 := ⟨t - 1, by omega⟩
      have htu : ((u + 1 : Nat) : Int) - 1 = u := by omega
      rw [htu]
      have hun : u < n := by omega
      obtain ⟨x, hx, hxe⟩ := HF1.out u hun
      have hcx := (HB.out.cell (p := ⟨g, u, none⟩) hg1).trans (HCC.out u hun)
      rw [hxe] at hcx
      have HXE := Lib.hid hxe
      have HXo := Lib.hid (HX1.out.below HB.out)
      have HBo := Lib.hid (Below.then HB1.out HB.out)
      have hRx := (HRF.out x hx).2.2.2
      have hR1 := (HRF.out x hx).1
      have hRc := Lib.hid (HRF.out x hx).2.1
      have k1 := quiet_below (w := wo) (fun W hW => reach_any n sl xs x W ((HR.out.below HBo.out).below hW) HP.out (by rw [HN.out]; exact hx))
      have d1 := cell_regrown HXo.out.1
      have d2 := cell_regrown HXo.out.2
      have d3 := cell_regrown hcx
      have i1 : (0 : Int) ≤ u := by omega
      have i2 : (u : Int) < n := by omega
      clear hxe
      go_wp2_with fail
      clear hcx
      refine wp_region_below (by kernel_rfl) (by kernel_rfl) ?_
      repeat (go_big_quiet_step (first | (with_reducible exact k1 _ _)))
      refine wpQuiet_nil ?_
      intro wq hbq0
      have HBQ := Lib.hid hbq0
      have HBq := Lib.hid (Below.then HB.out hbq0)
      have HOq := Lib.hid (HO.out.below hbq0)
      have hcq := (HBq.out.cell (p := ⟨g, u, none⟩) hg1).trans (HCC.out u hun)
      rw [HXE.out] at hcq
      clear hbq0 d1 d2 d3 k1
      generalize hRe : reachN xs x = R at *
      have HRE := Lib.hid hRe
      clear hRe
      have hbt := bit_test0 K x
      have hand := i64_andNot_nat R K (by omega) (by omega)
      have hor := i64_or_nat K R (by omega) (by omega)
      have hszq := HBq.out.size
      rcases q : K.testBit x with _ | _
      · rw [q] at hbt
        have hlow : ∀ y, y < n → scK xs y < scK xs x → K.testBit y = true := fun y hy hyx => by
          obtain ⟨i', hi', hye⟩ := HF2.out y hy
          rcases Nat.lt_trichotomy i' u with h1 | h1 | h1
          · have := HF3.out i' u y x h1 hun hye HXE.out
            omega
          · subst h1
            have h2 := HXE.out
            rw [hye] at h2
            have : y = x := by omega
            subst this
            omega
          · exact HKN.out i' (by omega) hi' y hye
        have hpm := HPM.out K x hK HC.out hx q hlow
        rw [HRE.out] at hpm
        obtain ⟨m1, m2, m3⟩ := hpm
        have h0 : R ≠ 0 := by intro e; rw [e] at hR1; simp at hR1
        have hps := HPS.out R hRx hRc.out h0
        rw [m3, ← m1] at hps
        have HST : Hid ((L ++ [less R K]).reverse = partsN xs R) := by
          unfold Hid
          rw [List.reverse_append, HL.out, hps]
          rfl
        have HKN2 : Hid (∀ j, u ≤ j → j < n → ∀ a : Nat, (ordS xs).getD j 0 = (a : Int) → R.testBit a = true) := fun j hj hjn a hja => by
          by_cases e : j = u
          · subst e
            have h2 := HXE.out
            rw [hja] at h2
            have : a = x := by omega
            subst this
            exact hR1
          · have := HKN.out j (by omega) hjn a hja
            rw [← m2, Nat.testBit_or, this]; rfl
        rw [m2] at hor
        have HM := Lib.hid hps
        have ho := HOq.out
        have hln : (nI L).length = L.length := nI_len L
        clear m1 m2 m3 hps hlow
        generalize less R K = D at *
        go_wp2_with (at_builtin; refine wp_append1 wq rfl (.tmp 31) (.tmp 35) rfl w1.heap.size _ (nI L) (D : Int) (by simp [Act.eval]) ho (by simp [Act.eval]) (by omega) (by exact hszq) ?_; intro v' w7 hown1 hg1; have HO7 := Lib.hid hown1; have HB7 := Lib.hid (HBq.out.grown hg1 hszq (fun k hk => (ho.lt k hk).1)); clear hown1 hg1)
        go_roundw
        case rel => exact ⟨u, R, L ++ [D], by omega, rfl, rfl, hRx, hRc.out, HKN2.out, HST.out, by rw [List.length_append, List.length_singleton]; omega, by rw [nI_snoc]; exact HO7.out, HB7.out⟩
        case measure => simp [intOf] <;> omega
      · rw [q] at hbt
        have HKN2 : Hid (∀ j, u ≤ j → j < n → ∀ a : Nat, (ordS xs).getD j 0 = (a : Int) → K.testBit a = true) := fun j hj hjn a hja => by
          by_cases e : j = u
          · subst e
            have h2 := HXE.out
            rw [hja] at h2
            have : a = x := by omega
            subst this
            exact q
          · exact HKN.out j (by omega) hjn a hja
        go_wp2
        go_roundw
        case rel => exact ⟨u, K, L, by omega, rfl, rfl, hK, HC.out, HKN2.out, HL.out, by omega, HOq.out, HBq.out⟩
        case measure => simp [intOf] <;> omega
    · obtain rfl : t = 0 := by omega
      have hKf : K = 2 ^ n - 1 := full_all hK (fun a ha => by
        obtain ⟨i', hi', hye⟩ := HF2.out a ha
        exact HKN.out i' (by omega) hi' a hye)
      have hp2 := Nat.pow_le_pow_right (show 0 < 2 by decide) hn8.1
      have hps := HPS.out K hK HC.out (by omega)
      have hlL : 0 < L.length := by
        have := congrArg List.length HL.out
        rw [hps, List.length_reverse, List.length_cons] at this
        omega
      have HLR : Hid ((nI L).reverse = nI (partsN xs (2 ^ n - 1))) := by
        unfold Hid nI
        rw [← List.map_reverse, HL.out, hKf]
      obtain ⟨m, hm⟩ : ∃ m, L.length = m := ⟨_, rfl⟩
      obtain ⟨g2, c2, rfl, -, hc2, hmc2, -, -⟩ := HO.out.at_ (n := m) (by rw [nI_len]; exact hm) (by omega)
      have HOo := Lib.hid HO.out
      have HM : Hid ((nI L).length = m) := by unfold Hid; rw [nI_len]; exact hm
      have hszo := HB.out.size
      have hmn : m ≤ 8 := by omega
      have hm1 : 1 ≤ m := by omega
      clear hps hp2 hm
      go_wp2_with fail
      refine (reverse_any (nI L) m w1.heap.size g2 c2 wo HM.out hm1 (by omega) hszo hc2 hmc2 HOo.out).mono ?_
      rintro e w9 ⟨rfl, ho9, hb9⟩
      rw [HLR.out] at ho9
      have HO9 := Lib.hid (ho9.mono HB1.out.size)
      have HB9 := Lib.hid (Below.then HB1.out (HB.out.trans hb9))
      clear ho9 hb9
      go_wp2
      go_ret
      exact ⟨_, rfl, by rw [HN.out]; exact HO9.out, HB9.out⟩
set_option maxHeartbeats 1000000 in
theorem po1_any (S a ga : Nat) (W : World) (ca : W.cell? ⟨ga, 0, none⟩ = some (.int .i64 a)) (ha : a < 8) :
    Calls Try.prog 81 #[.int .i64 S, .pointer (some ⟨ga, 0, none⟩)] W fun e w' => e = .returned (.bool (partP a S)) ∧ Below W.heap.size W w' := by
  have hb := bit_test S a
  have hF : Hid (partP a S = S.testBit a) := by unfold Hid partP; rw [Int.toNat_natCast]
  go_enter Try.func81, Try.ntmps81
  go_wp2
  go_ret
  exact ⟨ret_bool (by rw [hF.out, ← hb]), Below.refl _ _⟩
theorem enters_po1 : Enters 81 := fun _ _ => by kernel_rfl
set_option maxHeartbeats 2000000 in
theorem implPartOf (s : Int) (sl : Value) (xs : List Int) (a : Int) (w : World) (h : Rd w sl xs) :
    Calls Try.prog 25 #[.agg #[.int .i64 s, sl], .int .i64 a] w fun e w' => e = .returned (.int .i64 (partI s xs a)) ∧ Below w.heap.size w w' := by
  have HR := Lib.hid h
  obtain ⟨A, c, rfl, -, -, -⟩ := h
  have b3 := (below_alloc1 w (.cells #[.int .i64 s, .slice A xs.length c] 25)).alloc (by simp) (.cells #[.int .i64 a] 3)
  have t0 := (TBox.new w s (.slice A xs.length c) 25).below (below_alloc1 _ (.cells #[.int .i64 a] 3))
  have c1 : ((w.alloc (.cells #[.int .i64 s, .slice A xs.length c] 25)).alloc (.cells #[.int .i64 a] 3)).cell? ⟨w.heap.size + 1, 0, none⟩ = some (.int .i64 a) := by
    have := cell_new1' (w.alloc (.cells #[.int .i64 s, .slice A xs.length c] 25)) (.int .i64 a) 3
    simpa only [World.size_alloc] using this
  have HB0 := Lib.hid b3
  have HT0 := Lib.hid t0
  have C1 := Lib.hid c1
  clear b3 t0 c1
  rcases q0 : tourB s xs with _ | _
  · have hno : partI s xs a = -1 := by simp [partI, q0]
    rw [hno]
    go_enter Try.func25, Try.ntmps25
    go_wp2_with fail
    generalize ((w.alloc (.cells #[.int .i64 s, .slice A xs.length c] 25)).alloc (.cells #[.int .i64 a] 3)) = w0 at *
    have y0 := HT0.out.1
    have y1 := HT0.out.2
    go_wp2_with fail
    refine (implTourOk s _ xs _ (HR.out.below HB0.out)).mono ?_
    rintro e w1 ⟨rfl, hb⟩
    rw [q0]
    have HB1 := Lib.hid (Below.then HB0.out hb)
    go_wp2
    go_ret
    exact ⟨rfl, HB1.out⟩
  have hp := tourB_true.1 q0
  have hs := hp.1
  have hsl := hp.2.1
  rcases q1 : inB a 0 (s - 1) with _ | _
  all_goals
    go_enter Try.func25, Try.ntmps25
    go_wp2_with fail
    generalize ((w.alloc (.cells #[.int .i64 s, .slice A xs.length c] 25)).alloc (.cells #[.int .i64 a] 3)) = w0 at *
    have y0 := HT0.out.1
    have y1 := HT0.out.2
    go_wp2_with fail
    refine (implTourOk s _ xs _ (HR.out.below HB0.out)).mono ?_
    rintro e w1 ⟨rfl, hb⟩
    rw [q0]
    have HB1 := Lib.hid (Below.then HB0.out hb)
    have HT1 := Lib.hid (HT0.out.below hb)
    have C11 := Lib.hid ((hb.cell (World.block_lt_of_cell? _ _ C1.out)).trans C1.out)
    clear y0 y1 hb
    have y0 := HT1.out.1
    have y1 := HT1.out.2
    have ca := C11.out
    go_wp2_with fail
    refine (has_any s _ a _ (by omega)).mono ?_
    rintro e w2 ⟨rfl, hb2⟩
    rw [q1]
    have HB2 := Lib.hid (Below.then HB1.out hb2)
    have HT2 := Lib.hid (HT1.out.below hb2)
    have C12 := Lib.hid ((hb2.cell (World.block_lt_of_cell? _ _ C11.out)).trans C11.out)
    clear y0 y1 ca hb2 HB0 HB1 HT0 HT1 C1 C11
  · have hno : Hid (partI s xs a = -1) := by unfold Hid; simp [partI, q1]
    go_wp2
    go_ret
    exact ⟨ret_int hno.out.symm, HB2.out⟩
  · have ha := inB_true.1 q1
    obtain ⟨i, rfl⟩ := Int.eq_ofNat_of_zero_le ha.1
    have hO : Hid (partI s xs i = findI (partP i) (nI (partsN xs (2 ^ xs.length - 1)))) := by unfold Hid partI; rw [q0, q1, Int.toNat_natCast]; rfl
    obtain ⟨n, rfl⟩ := Int.eq_ofNat_of_zero_le (show 0 ≤ s by omega)
    have HP := Lib.hid hp
    have hi8 : i < 8 := by omega
    have y0 := HT2.out.1
    have y1 := HT2.out.2
    clear q0 q1 hp
    go_wp2_with fail
    refine (parts_any n _ xs HP.out w2 (HR.out.below HB2.out)).mono ?_
    rintro e w3 ⟨v3, rfl, ho3, hb3⟩
    have C13 := Lib.hid ((hb3.cell (World.block_lt_of_cell? _ _ C12.out)).trans C12.out)
    have HO3 := Lib.hid ho3
    have HB3 := Lib.hid (Below.then HB2.out hb3)
    clear ho3 hb3 y0 y1
    go_wp2_with fail
    refine (indexFunc_any 81 #[.pointer (some ⟨w.heap.size + 1, 0, none⟩)] enters_po1 v3 (nI (partsN xs (2 ^ xs.length - 1))) (partP i) w3 HO3.out.rd (fun x hx W hW => by
      unfold nI at hx
      rw [List.mem_map] at hx
      obtain ⟨S, -, rfl⟩ := hx
      exact po1_any S i _ W ((hW.cell (World.block_lt_of_cell? _ _ C13.out)).trans C13.out) hi8)).mono ?_
    rintro e w4 ⟨rfl, hb4⟩
    have HB4 := Lib.hid (Below.then HB3.out hb4)
    clear hb4
    go_wp2
    go_ret
    exact ⟨ret_int hO.out.symm, HB4.out⟩
end Go.Proofs.Ytkhjdijdcjgpfaa

namespace Go.Proofs.Ytkhjdijdcjgpfaa
open Go.RowKit Go.Sort
set_option maxRecDepth 100000
theorem pt_bit (xs : List Int) (S : Nat) {a b : Nat} (ha : a < (memN S 8).length) (hb : b < (memN S 8).length) : bt (ptL xs S) a b = (!(a == b) && bt xs ((memN S 8).getD a 0) ((memN S 8).getD b 0)) := by
  unfold bt winsN
  have hg : (ptL xs S).getD a 0 = ((setOf (toQ (fun a b => bt xs ((memN S 8).getD a 0) ((memN S 8).getD b 0)) a) (memN S 8).length : Nat) : Int) := by
    unfold ptL toL; simp [ha]
  rw [hg, Int.toNat_natCast, testBit_setOf]
  simp [hb, toQ]
  rfl
theorem mem_inj {S a b : Nat} (ha : a < (memN S 8).length) (hb : b < (memN S 8).length) (hab : a ≠ b) : (memN S 8).getD a 0 ≠ (memN S 8).getD b 0 := by
  rw [getD_nat ha, getD_nat hb]
  intro e
  exact hab ((List.getElem_inj (memN_nodup S 8)).1 e)
theorem pt_tour {n : Nat} {xs : List Int} (hp : tourP n xs) {S : Nat} (h1 : 1 ≤ (memN S 8).length) (hM : ∀ b ∈ memN S 8, b < n) : tourP (memN S 8).length (ptL xs S) := by
  have hl := ptL_len xs S
  have h8 := memN_len S 8
  have hx : ∀ a, a < (memN S 8).length → (memN S 8).getD a 0 < n := fun a ha => hM _ (by rw [getD_nat ha]; exact List.getElem_mem _)
  refine tour_of_bits ⟨by omega, by omega⟩ (by rw [hl]) (fun i hi => ?_) (fun a ha => ?_) (fun a b ha hb hab => ?_)
  · rw [hl] at hi ⊢
    exact ⟨_, by unfold ptL toL; simp [hi]; rfl, setOf_lt _ _⟩
  · rw [hl] at ha
    rw [pt_bit xs S ha ha]; simp
  · rw [hl] at ha hb
    rw [pt_bit xs S ha hb, pt_bit xs S hb ha, (tr_bit hp (hx a ha) (hx b hb)).2 (mem_inj ha hb hab)]
    have e1 : (a == b) = false := by simp [hab]
    have e2 : (b == a) = false := by simp [Ne.symm hab]
    rw [e1, e2]
    simp
/-- the tour of the set's players is transitive -/
theorem pt_trans {n : Nat} {xs : List Int} (hp : tourP n xs) {S : Nat} (h1 : 1 ≤ (memN S 8).length) (hM : ∀ b ∈ memN S 8, b < n) :
    transP (ptL xs S) (memN S 8).length ↔ ∀ x y z, x ∈ memN S 8 → y ∈ memN S 8 → z ∈ memN S 8 → bt xs x y = true → bt xs y z = true → bt xs x z = true := by
  have key : ∀ a b, a < (memN S 8).length → b < (memN S 8).length → (bt (ptL xs S) a b = true ↔ bt xs ((memN S 8).getD a 0) ((memN S 8).getD b 0) = true) := fun a b ha hb => by
    rw [pt_bit xs S ha hb]
    by_cases e : a = b
    · subst e
      have := (tr_bit hp (hM _ (by rw [getD_nat ha]; exact List.getElem_mem _) : (memN S 8).getD a 0 < n) (hM _ (by rw [getD_nat ha]; exact List.getElem_mem _))).1 rfl
      rw [this]; simp
    · simp [e]
  constructor
  · intro h x y z hx hy hz h1 h2
    obtain ⟨a, ha, rfl⟩ := List.getElem_of_mem hx
    obtain ⟨b, hb, rfl⟩ := List.getElem_of_mem hy
    obtain ⟨c, hc, rfl⟩ := List.getElem_of_mem hz
    have k1 := key a b ha hb
    have k2 := key b c hb hc
    have k3 := key a c ha hc
    rw [getD_nat ha, getD_nat hb] at k1
    rw [getD_nat hb, getD_nat hc] at k2
    rw [getD_nat ha, getD_nat hc] at k3
    exact k3.1 (h a b c ha hb hc (k1.2 h1) (k2.2 h2))
  · intro h a b c ha hb hc h1 h2
    exact (key a c ha hc).2 (h _ _ _ (by rw [getD_nat ha]; exact List.getElem_mem _) (by rw [getD_nat hb]; exact List.getElem_mem _) (by rw [getD_nat hc]; exact List.getElem_mem _) ((key a b ha hb).1 h1) ((key b c hb hc).1 h2))
def trN (xs : List Int) (S : Nat) : Bool := decide ((partsN (ptL xs S) (2 ^ (memN S 8).length - 1)).length = (memN S 8).length)
theorem trN_iff {n : Nat} {xs : List Int} (hp : tourP n xs) {S : Nat} (h1 : 1 ≤ (memN S 8).length) (hM : ∀ b ∈ memN S 8, b < n) :
    trN xs S = true ↔ ∀ x y z, x ∈ memN S 8 → y ∈ memN S 8 → z ∈ memN S 8 → bt xs x y = true → bt xs y z = true → bt xs x z = true := by
  unfold trN
  rw [decide_eq_true_eq, trans_iff (pt_tour hp h1 hM), pt_trans hp h1 hM]
set_option maxHeartbeats 2000000 in
theorem trOn_any (n : Nat) (sl : Value) (xs : List Int) (S : Nat) (w : World) (h : Rd w sl xs) (hp : tourP n xs) (h1 : 1 ≤ S) (hS : S < 2 ^ n) :
    Calls Try.prog 66 #[.agg #[.int .i64 n, sl], .int .i64 S] w fun e w' => e = .returned (.bool (trN xs S)) ∧ Below w.heap.size w w' := by
  have HR := Lib.hid h
  have HP := Lib.hid hp
  have HS := Lib.hid hS
  have hln := tour_len hp
  have h8 : n ≤ 8 := by have := hp.1; omega
  have hM : ∀ b ∈ memN S 8, b < n := fun b hb => bit_lt hS (mem_memN.1 hb).2
  have hm1 : 1 ≤ (memN S 8).length := by
    obtain ⟨c, hc⟩ := Nat.exists_testBit_of_ne_zero (show S ≠ 0 by omega)
    exact List.length_pos_of_mem (mem_memN.2 ⟨by have := bit_lt hS hc; omega, hc⟩)
  have HPT := Lib.hid (pt_tour hp hm1 hM)
  have HPL := Lib.hid (ptL_len xs S)
  have HTN : Hid (trN xs S = decide ((partsN (ptL xs S) (2 ^ (memN S 8).length - 1)).length = (memN S 8).length)) := rfl
  obtain ⟨A, c, rfl, -, hcm, -⟩ := h
  unfold maxLen at hcm
  rw [hln] at HR ⊢
  clear hp hln hS hM hm1
  go_enter Try.func66, Try.ntmps66
  go_wp2_with fail
  have b0 := below_alloc1 w (.cells #[.int .i64 n, .slice A n c] 25)
  have x0 := TBox.new w n (.slice A n c) 25
  generalize w.alloc (.cells #[.int .i64 n, .slice A n c] 25) = w0 at *
  have HX0 := Lib.hid x0
  have HB0 := Lib.hid b0
  clear x0 b0
  have y0_0 := HX0.out.1
  have y1_0 := HX0.out.2
  go_wp2_with fail
  refine (cPart n (.slice A n c) xs S _ (HR.out.below HB0.out) HP.out h1 HS.out).mono ?_
  rintro e w1 ⟨Y, cy, rfl, ho, hb1⟩
  generalize ptL xs S = ys at *
  generalize (memN S 8).length = m at *
  have HO1 := Lib.hid (ho.rd.below (below_alloc1 w1 (.cells #[.int .i64 m, .slice Y m cy] 25)))
  have HX1 := Lib.hid (TBox.new w1 m (.slice Y m cy) 25)
  have HB1 := Lib.hid (Below.then HB0.out (Below.then hb1 (below_alloc1 w1 (.cells #[.int .i64 m, .slice Y m cy] 25))))
  clear ho hb1 HB0 HX0 y0_0 y1_0
  go_wp2_with fail
  generalize w1.alloc (.cells #[.int .i64 m, .slice Y m cy] 25) = w2 at *
  generalize w1.heap.size = bx at *
  have y0 := HX1.out.1
  have y1 := HX1.out.2
  have BD := Lib.hid (Below.refl w2.heap.size w2).drew
  go_region_held3 (fun W => W.cell? ⟨bx, 0, none⟩ = some (.int .i64 m) ∧ W.cell? ⟨bx, 1, none⟩ = some (.slice Y m cy))
    (first | exact ⟨y0, y1⟩ | exact HX1.out.below BD.out | exact HX1.out.below BE.out)
    (first
      | (go_at_call 79; refine (parts_any m (.slice Y m cy) ys HPT.out _ (HO1.out.below BD.out)).mono ?_; rintro e w3 ⟨v3, rfl, ho3, hb3⟩; have BE := Lib.hid (Below.then BD.out hb3); obtain ⟨Z, cz, rfl, -, -, -⟩ := ho3.form; rw [nI_len]; clear ho3 hb3))
  have HB3 := Lib.hid (Below.then HB1.out BE.out)
  clear BD BE y0 y1
  go_wp2
  go_ret
  refine ⟨ret_bool ?_, HB3.out⟩
  rw [HTN.out, HPL.out]
  rw [Bool.eq_iff_iff]
  simp
  omega
end Go.Proofs.Ytkhjdijdcjgpfaa

namespace Go.Proofs.Ytkhjdijdcjgpfaa
open Go.RowKit Go.Sort
set_option maxRecDepth 100000
/-- nobody beats the whole set, which is transitive -/
noncomputable def okS (xs : List Int) (n S : Nat) : Bool := trN xs S && !((List.range n).any fun a => decide (winsN xs a &&& S = S))
def bkIn (xs : List Int) (S : Nat) (l : List Nat) (o : Nat) : Nat := l.foldl (fun o a => if less S (winsN xs a) = 2 ^ a then o ||| 2 ^ a else o) o
noncomputable def bkK (xs : List Int) (n : Nat) : Nat → Nat
  | 0 => 0
  | k + 1 => if okS xs n (k + 1) = true then bkIn xs (k + 1) (memN (k + 1) 8) (bkK xs n k) else bkK xs n k
theorem bkIn_bit (xs : List Int) (S : Nat) (c : Nat) : ∀ (l : List Nat) (o : Nat), (bkIn xs S l o).testBit c = true ↔ o.testBit c = true ∨ (c ∈ l ∧ less S (winsN xs c) = 2 ^ c) := by
  intro l
  induction l with
  | nil => intro o; simp [bkIn]
  | cons a l ih =>
    intro o
    have : bkIn xs S (a :: l) o = bkIn xs S l (if less S (winsN xs a) = 2 ^ a then o ||| 2 ^ a else o) := rfl
    rw [this, ih]
    by_cases h : less S (winsN xs a) = 2 ^ a
    · rw [if_pos h, Nat.testBit_or, Nat.testBit_two_pow, Bool.or_eq_true, decide_eq_true_eq, List.mem_cons]
      constructor
      · rintro ((h1 | rfl) | h1)
        · exact .inl h1
        · exact .inr ⟨.inl rfl, h⟩
        · exact .inr ⟨.inr h1.1, h1.2⟩
      · rintro (h1 | ⟨rfl | h1, h2⟩)
        · exact .inl (.inl h1)
        · exact .inl (.inr rfl)
        · exact .inr ⟨h1, h2⟩
    · rw [if_neg h, List.mem_cons]
      constructor
      · rintro (h1 | h1)
        · exact .inl h1
        · exact .inr ⟨.inr h1.1, h1.2⟩
      · rintro (h1 | ⟨rfl | h1, h2⟩)
        · exact .inl h1
        · exact absurd h2 h
        · exact .inr ⟨h1, h2⟩
theorem bkK_bit (xs : List Int) (n c : Nat) : ∀ k, (bkK xs n k).testBit c = true ↔ ∃ S, 1 ≤ S ∧ S ≤ k ∧ okS xs n S = true ∧ c ∈ memN S 8 ∧ less S (winsN xs c) = 2 ^ c := by
  intro k
  induction k with
  | zero =>
    simp only [bkK, Nat.zero_testBit]
    constructor
    · intro h; cases h
    · rintro ⟨S, h1, h2, -⟩; omega
  | succ k ih =>
    simp only [bkK]
    by_cases h : okS xs n (k + 1) = true
    · rw [if_pos h, bkIn_bit, ih]
      constructor
      · rintro (⟨S, h1, h2, h3⟩ | h1)
        · exact ⟨S, h1, by omega, h3⟩
        · exact ⟨k + 1, by omega, Nat.le_refl _, h, h1⟩
      · rintro ⟨S, h1, h2, h3⟩
        by_cases e : S = k + 1
        · subst e; exact .inr h3.2
        · exact .inl ⟨S, h1, by omega, h3⟩
    · rw [if_neg h, ih]
      constructor
      · rintro ⟨S, h1, h2, h3⟩; exact ⟨S, h1, by omega, h3⟩
      · rintro ⟨S, h1, h2, h3⟩
        by_cases e : S = k + 1
        · subst e; exact absurd h3.1 h
        · exact ⟨S, h1, by omega, h3⟩
/-- a banks winner is a king -/
theorem bk_king {n : Nat} {xs : List Int} (hp : tourP n xs) {c : Nat} (h : (bkK xs n (2 ^ n - 1)).testBit c = true) : c < n ∧ kingN xs c = true := by
  have h8 : n ≤ 8 := by have := hp.1; omega
  obtain ⟨S, h1, h2, h3, h4, h5⟩ := (bkK_bit xs n c _).1 h
  have hS : S < 2 ^ n := by have := Nat.one_le_two_pow (n := n); omega
  have hc : c < n := bit_lt hS (mem_memN.1 h4).2
  have hother : ∀ d, S.testBit d = true → d ≠ c → bt xs c d = true := fun d hd hdc => by
    have := congrArg (fun z => z.testBit d) h5
    simp only [testBit_less, Nat.testBit_two_pow, hd] at this
    show (winsN xs c).testBit d = true
    rw [decide_eq_false (fun e : c = d => hdc e.symm)] at this
    simpa using this
  refine ⟨hc, (king_iff hp hc).2 fun d hd => ?_⟩
  by_cases e : d = c
  · exact .inl e
  · rcases q : bt xs c d with _ | _
    · right; right
      have hdS : S.testBit d = false := by
        rcases q2 : S.testBit d with _ | _
        · rfl
        · rw [hother d q2 e] at q; cases q
      unfold okS at h3
      rw [Bool.and_eq_true, Bool.not_eq_true', List.any_eq_false] at h3
      have h6 := h3.2 d (by simpa using hd)
      rw [decide_eq_true_eq] at h6
      have hex : ∃ b, S.testBit b = true ∧ bt xs d b = false := by
        refine Classical.byContradiction fun hno => h6 (Nat.eq_of_testBit_eq fun j => ?_)
        rw [Nat.testBit_and]
        rcases q2 : S.testBit j with _ | _
        · simp
        · rcases q3 : bt xs d j with _ | _
          · exact absurd ⟨j, q2, q3⟩ hno
          · have : (winsN xs d).testBit j = true := q3
            rw [this]; rfl
      obtain ⟨b, hb, hdb⟩ := hex
      have hbn : b < n := bit_lt hS hb
      have hbd : b ≠ d := fun e => by subst e; rw [hb] at hdS; cases hdS
      have hbd' := (bt_flip hp hbn hd hbd).2 hdb
      have hbc : b ≠ c := fun e2 => by subst e2; rw [hbd'] at q; cases q
      exact ⟨b, hbn, hother b hb hbc, hbd'⟩
    · exact .inr (.inl rfl)
theorem card_more {T U n c : Nat} (h : ∀ j, T.testBit j = true → U.testBit j = true) (hc : c < n) (h1 : U.testBit c = true) (h2 : T.testBit c = false) : cardN T n + 1 ≤ cardN U n := by
  have e := card_split h n
  have := card_pos hc (S := less U T) (by rw [testBit_less, h1, h2]; rfl)
  omega
theorem card_le (S n : Nat) : cardN S n ≤ n := memN_len S n
theorem max_ex {P : Nat → Prop} (f : Nat → Nat) (N : Nat) (hf : ∀ S, f S ≤ N) : ∀ B, (∃ S, P S ∧ N - f S ≤ B) → ∃ S, P S ∧ ∀ T, P T → f T ≤ f S := by
  intro B
  induction B with
  | zero =>
    rintro ⟨S, h1, h2⟩
    exact ⟨S, h1, fun T _ => by have := hf T; omega⟩
  | succ B ih =>
    rintro ⟨S, h1, h2⟩
    by_cases h : ∀ T, P T → f T ≤ f S
    · exact ⟨S, h1, h⟩
    · obtain ⟨T, hT⟩ := Classical.not_forall.1 h
      obtain ⟨hT1, hT2⟩ := Classical.not_imp.1 hT
      exact ih ⟨T, hT1, by have := hf T; omega⟩
/-- the banks set is not empty -/
theorem bk_some {n : Nat} {xs : List Int} (hp : tourP n xs) : ∃ c, (bkK xs n (2 ^ n - 1)).testBit c = true := by
  have h8 : n ≤ 8 := by have := hp.1; omega
  have hn : 0 < n := by have := hp.1; omega
  let P : Nat → Prop := fun S => S < 2 ^ n ∧ 1 ≤ S ∧ ∀ x y z, S.testBit x = true → S.testBit y = true → S.testBit z = true → bt xs x y = true → bt xs y z = true → bt xs x z = true
  have hP0 : P 1 := ⟨Nat.one_lt_two_pow (by omega), Nat.le_refl _, fun x y z hx hy _ hxy _ => by
    have e : ∀ j, (1 : Nat).testBit j = true → j = 0 := fun j hj => by
      rw [show (1 : Nat) = 2 ^ 0 from rfl, Nat.testBit_two_pow, decide_eq_true_eq] at hj; exact hj.symm
    rw [e x hx, e y hy, (tr_bit hp hn hn).1 rfl] at hxy; cases hxy⟩
  obtain ⟨S, ⟨hS, hS1, hSt⟩, hmax⟩ := max_ex (P := P) (fun S => cardN S n) n (fun S => card_le S n) n ⟨1, hP0, by omega⟩
  have hM : ∀ b ∈ memN S 8, b < n := fun b hb => bit_lt hS (mem_memN.1 hb).2
  obtain ⟨c0, hc0⟩ := Nat.exists_testBit_of_ne_zero (show S ≠ 0 by omega)
  -- a top
  obtain ⟨c, hcS, hcm⟩ := max_ex (P := fun c => S.testBit c = true) (fun c => cardN (S &&& winsN xs c) n) n (fun c => card_le _ n) n ⟨c0, hc0, by omega⟩
  have hcn : c < n := bit_lt hS hcS
  have htop : ∀ b, S.testBit b = true → b ≠ c → bt xs c b = true := fun b hb hbc => by
    have hbn := bit_lt hS hb
    rcases q : bt xs c b with _ | _
    · exfalso
      have hbc' := (bt_flip hp hbn hcn hbc).2 q
      have h1 := card_more (T := S &&& winsN xs c) (U := S &&& winsN xs b) (n := n) (c := c) (fun j hj => by
        rw [Nat.testBit_and, Bool.and_eq_true] at hj ⊢
        exact ⟨hj.1, hSt b c j hb hcS hj.1 hbc' hj.2⟩) hcn (by rw [Nat.testBit_and, hcS]; exact hbc') (by rw [Nat.testBit_and, hcS]; exact (tr_bit hp hcn hcn).1 rfl)
      have := hcm b hb
      omega
    · rfl
  refine ⟨c, (bkK_bit xs n c _).2 ⟨S, hS1, by omega, ?_, mem_memN.2 ⟨by omega, hcS⟩, Nat.eq_of_testBit_eq fun j => ?_⟩⟩
  · unfold okS
    rw [Bool.and_eq_true, Bool.not_eq_true', List.any_eq_false]
    refine ⟨(trN_iff hp (List.length_pos_of_mem (mem_memN.2 ⟨by omega, hcS⟩)) hM).2 fun x y z hx hy hz => hSt x y z (mem_memN.1 hx).2 (mem_memN.1 hy).2 (mem_memN.1 hz).2, fun a ha hd => ?_⟩
    rw [decide_eq_true_eq] at hd
    have han : a < n := by simpa using ha
    have hall : ∀ j, S.testBit j = true → bt xs a j = true := fun j hj => by
      rw [← hd, Nat.testBit_and, Bool.and_eq_true] at hj; exact hj.1
    have haS : S.testBit a = false := by
      rcases q : S.testBit a with _ | _
      · rfl
      · have := hall a q; rw [(tr_bit hp han han).1 rfl] at this; cases this
    have hno : ∀ j, S.testBit j = true → bt xs j a = false := fun j hj => (bt_asym hp han (bit_lt hS hj) (hall j hj)).1
    have hPT : P (S ||| 2 ^ a) := ⟨Nat.or_lt_two_pow hS (Nat.pow_lt_pow_right (by decide) han), by have := Nat.left_le_or (n := S) (m := 2 ^ a); omega, fun x y z hx hy hz hxy hyz => by
      rw [Nat.testBit_or, Nat.testBit_two_pow, Bool.or_eq_true, decide_eq_true_eq] at hx hy hz
      rcases hx with hx | rfl
      · rcases hy with hy | rfl
        · rcases hz with hz | rfl
          · exact hSt x y z hx hy hz hxy hyz
          · rw [hno y hy] at hyz; cases hyz
        · rw [hno x hx] at hxy; cases hxy
      · rcases hz with hz | rfl
        · exact hall z hz
        · rcases hy with hy | rfl
          · rw [hno y hy] at hyz; cases hyz
          · exact hxy⟩
    have h2 := hmax _ hPT
    have h3 := card_more (T := S) (U := S ||| 2 ^ a) (n := n) (c := a) (fun j hj => by rw [Nat.testBit_or, hj]; rfl) han (by rw [Nat.testBit_or, Nat.testBit_two_pow]; simp) haS
    have h4 : cardN (S ||| 2 ^ a) n ≤ cardN S n := h2
    omega
  · rw [testBit_less, Nat.testBit_two_pow]
    by_cases e : c = j
    · subst e
      have : (winsN xs c).testBit c = false := (tr_bit hp hcn hcn).1 rfl
      rw [hcS, this]; simp
    · rw [decide_eq_false e]
      rcases q : S.testBit j with _ | _
      · rfl
      · have : (winsN xs c).testBit j = true := htop j q (Ne.symm e)
        rw [this]; rfl
end Go.Proofs.Ytkhjdijdcjgpfaa

namespace Go.Proofs.Ytkhjdijdcjgpfaa
open Go.RowKit Go.Sort
set_option maxRecDepth 100000
theorem same_true (xs ys : List Int) (h : xs.length = ys.length) (HP : ∀ j, j < xs.length → xs.getD j 0 = ys.getD j 0) : decide (xs = ys) = true := by
  rw [decide_eq_true]
  apply List.ext_getElem h
  intro i h1 h2
  have := HP i h1
  simpa [h1, h2] using this
set_option maxHeartbeats 400000 in
theorem lsame_any (v1 v2 : Value) (xs ys : List Int) (w : World) (h1 : Rd w v1 xs) (h2 : Rd w v2 ys) :
    Calls Try.prog 55 #[v1, v2] w fun e w' => e = .returned (.bool (decide (xs = ys))) ∧ w = w' := by
  obtain ⟨A, c, rfl, hl1, hm1, hc1⟩ := h1
  obtain ⟨B, d, rfl, hl2, hm2, hc2⟩ := h2
  unfold maxLen at hm1 hm2
  generalize hn : xs.length = n at *
  generalize hm : ys.length = m at *
  have H1 := Lib.hid hn
  have H2 := Lib.hid hm
  have H3 := Lib.hid hc1
  have H4 := Lib.hid hc2
  clear hn hm hc1 hc2
  by_cases hnm : n = m
  · subst hnm
    have hne : ((n : Int) != (n : Int)) = false := by simp
    go_enter Try.func55, Try.ntmps55
    go_wp2
    go_loop [14] (fun i => ∃ k : Nat, k ≤ n ∧ i = .int .i64 k ∧ Hid (∀ j, j < k → xs.getD j 0 = ys.getD j 0)) (fun i => n - (intOf i).toNat)
    case atStart => exact ⟨0, by omega, rfl, fun j hj => absurd hj (by omega)⟩
    case round =>
      obtain ⟨k, hk, rfl, HP⟩ := hrel
      by_cases hlt : k < n
      · obtain ⟨b, off, rfl, hb, hx⟩ := H3.out (by omega)
        obtain ⟨b', off', rfl, hb', hy⟩ := H4.out (by omega)
        have hxk := hx k hlt
        have hyk := hy k hlt
        clear hx hy
        generalize hX : xs.getD k 0 = X at *
        generalize hY : ys.getD k 0 = Y at *
        have HXE := Lib.hid hX
        have HYE := Lib.hid hY
        clear hX hY
        by_cases hXY : X = Y
        · have hne2 : (X != Y) = false := by simp [hXY]
          have HP2 : Hid (∀ j, j < k + 1 → xs.getD j 0 = ys.getD j 0) := Lib.hid fun j hj => by
            by_cases hjk : j < k
            · exact HP.out j hjk
            · obtain rfl : j = k := by omega
              rw [HXE.out, HYE.out, hXY]
          clear hXY
          go_wp2
          go_round
          case rel => exact ⟨k + 1, by omega, by go_num, HP2⟩
          case measure => simp [intOf]; omega
        · have hne2 : (X != Y) = true := by simp [hXY]
          go_wp2
          go_ret
          refine ⟨ret_bool ?_, rfl⟩
          refine (decide_eq_false ?_).symm
          rintro rfl
          exact hXY (HXE.out.symm.trans HYE.out)
      · have hge : ¬ ((k : Int) < (n : Int)) := by omega
        go_wp2
        go_ret
        exact ⟨ret_bool (same_true xs ys (by rw [H1.out, H2.out]) fun j hj => HP.out j (by have := H1.out; omega)).symm, rfl⟩
  · have hne : ((n : Int) != (m : Int)) = true := by simp; omega
    go_enter Try.func55, Try.ntmps55
    go_wp2
    go_ret
    refine ⟨ret_bool (decide_eq_false ?_).symm, rfl⟩
    rintro rfl
    exact hnm (H1.out.symm.trans H2.out)
theorem same_yes (v1 v2 : Value) (xs : List Int) (w : World) (h1 : Rd w v1 xs) (h2 : Rd w v2 xs) :
    Calls Try.prog 55 #[v1, v2] w fun e w' => e = .returned (.bool true) ∧ w = w' := by
  have := lsame_any v1 v2 xs xs w h1 h2
  rwa [decide_eq_true (rfl : xs = xs)] at this
set_option maxHeartbeats 1000000 in
theorem lawBits_any (x : Nat) (w : World) (h : x < 256) :
    Calls Try.prog 12 #[.int .i64 x] w fun e w' => e = .returned (.int .i64 (popN 8 x : Nat)) ∧ w = w' := by
  go_enter Try.func12, Try.ntmps12
  go_wp2
  go_loop [0, 3] (fun n t => ∃ j m k : Nat, j ≤ 8 ∧ n = .int .i64 m ∧ m < 2 ^ j ∧ t = .int .i64 k ∧ k ≤ 8 ∧ Hid (k + popN j m = popN 8 x)) (fun n _ => (intOf n).toNat)
  case atStart => exact ⟨8, x, 0, by omega, rfl, h, rfl, by omega, by simp [Hid]⟩
  case round =>
    obtain ⟨j, m, k, hj, rfl, hm, rfl, hk, HP⟩ := hrel
    by_cases h0 : 0 < m
    · obtain ⟨j, rfl⟩ : ∃ i, j = i + 1 := ⟨j - 1, by
        rcases j with _ | j
        · simp at hm; omega
        · omega⟩
      have hp := popN_le 8 x
      have hq : k + (m % 2 + popN j (m / 2)) = popN 8 x := HP.out
      clear HP
      have hand := i64_and_one (m : Int)
      have h2 : 2 ^ (j + 1) = 2 * 2 ^ j := by rw [Nat.pow_succ]; omega
      go_wp2
      go_round
      case rel => exact ⟨j, m / 2, k + m % 2, by omega, by first | go_num | (simp; omega), by omega, by first | go_num | (rw [hand]; go_num), by omega, by unfold Hid; omega⟩
      case measure => simp [intOf]; omega
    · obtain rfl : m = 0 := by omega
      have hq := HP.out
      rw [popN_zero] at hq
      go_wp2
      go_ret
      exact ⟨ret_int (by omega), rfl⟩
end Go.Proofs.Ytkhjdijdcjgpfaa

namespace Go.Proofs.Ytkhjdijdcjgpfaa
open Go.RowKit Go.Sort
set_option maxRecDepth 100000
theorem rows_info : (Try.prog.info? 23).map (fun i => (i.zero, i.size, i.bytes)) = some (some (.slice none 0 0), 1, 24) := by kernel_rfl
theorem ownsRow_below {w w' : World} {base size n : Nat} {e : TypeId} {v : Value} {xs : List Value} (h : w.ownsRow base e size v n xs) (hb : Below w.heap.size w w') : w'.ownsRow base e size v n xs := by
  refine ⟨h.1, ?_⟩
  rcases h.2 with h0 | ⟨g, cap, cur, hv, hg, hh, r⟩
  · exact .inl h0
  · exact .inr ⟨g, cap, cur, hv, hg, by rw [hb.block g (Array.getElem?_eq_some_iff.1 hh).1]; exact hh, r⟩
theorem ownsRow_mono {w : World} {base b' size n : Nat} {e : TypeId} {v : Value} {xs : List Value} (h : w.ownsRow base e size v n xs) (hb : b' ≤ base) : w.ownsRow b' e size v n xs := by
  refine ⟨h.1, ?_⟩
  rcases h.2 with h0 | ⟨g, cap, cur, hv, hg, r⟩
  · exact .inl h0
  · exact .inr ⟨g, cap, cur, hv, by omega, r⟩
/-- rows of different element types lie in different blocks -/
theorem types_part {w : World} {b1 b2 s1 s2 n1 n2 : Nat} {e1 e2 : TypeId} {v1 v2 : Value} {x1 x2 : List Value} (h1 : w.ownsRow b1 e1 s1 v1 n1 x1) (h2 : w.ownsRow b2 e2 s2 v2 n2 x2) (hne : e1 ≠ e2) : v1.ownBlock = none ∨ v1.ownBlock ≠ v2.ownBlock := by
  rcases h1.2 with ⟨rfl, _⟩ | ⟨g1, c1, cur1, rfl, _, hg1, _⟩
  · exact .inl rfl
  · right
    rcases h2.2 with ⟨rfl, _⟩ | ⟨g2, c2, cur2, rfl, _, hg2, _⟩
    · simp [Value.ownBlock]
    · intro e
      simp only [Value.ownBlock, Option.some.injEq] at e
      subst e
      rw [hg1] at hg2
      simp only [Option.some.injEq, Obj.cells.injEq] at hg2
      exact hne hg2.2.1
theorem apart_symm' {a b : Option Nat} (h : a = none ∨ a ≠ b) : b = none ∨ b ≠ a := by
  rcases h with h | h
  · subst h; cases b <;> simp
  · exact .inr (Ne.symm h)
def OwnRowsU (w : World) (base : Nat) (v : Value) (us : List Value) (rows : List (List Int)) : Prop :=
  us.length = rows.length ∧ w.ownsRow base 23 1 v rows.length us ∧ (∀ k, k < rows.length → Own w base (us.getD k (.slice none 0 0)) (rows.getD k [])) ∧
    ∀ i j, i < j → j < rows.length → (us.getD i (.slice none 0 0)).ownBlock = none ∨ (us.getD i (.slice none 0 0)).ownBlock ≠ (us.getD j (.slice none 0 0)).ownBlock
def OwnRows (w : World) (base : Nat) (v : Value) (rows : List (List Int)) : Prop := ∃ us : List Value, OwnRowsU w base v us rows
theorem OwnRows.nil_ (w : World) (base : Nat) : OwnRows w base (.slice none 0 0) [] := ⟨[], rfl, World.ownsRow_nil _ _ _ _, fun k h => absurd h (by simp), fun i j _ h => absurd h (by simp)⟩
theorem OwnRows.lit0 (w : World) (base : Nat) (hb : base ≤ w.heap.size) : OwnRows (w.alloc (.cells #[] 23)) base (.slice (some ⟨w.heap.size, 0, none⟩) 0 0) [] := by
  have := World.ownsRow_lit (e := 23) (size := 1) w #[] 0 hb (by unfold maxLen; omega) (by simp)
  exact ⟨[], rfl, by simpa using this, fun k h => absurd h (by simp), fun i j _ h => absurd h (by simp)⟩
theorem OwnRowsU.below {w w' : World} {base : Nat} {v : Value} {us : List Value} {rows : List (List Int)} (h : OwnRowsU w base v us rows) (hb : Below w.heap.size w w') : OwnRowsU w' base v us rows := by
  obtain ⟨hl, ho, hr, hd⟩ := h
  exact ⟨hl, ownsRow_below ho hb, fun k hk => (hr k hk).below hb, hd⟩
theorem OwnRows.below {w w' : World} {base : Nat} {v : Value} {rows : List (List Int)} (h : OwnRows w base v rows) (hb : Below w.heap.size w w') : OwnRows w' base v rows := by
  obtain ⟨us, h⟩ := h
  exact ⟨us, h.below hb⟩
theorem OwnRows.mono {w : World} {base b' : Nat} {v : Value} {rows : List (List Int)} (h : OwnRows w base v rows) (hb : b' ≤ base) : OwnRows w b' v rows := by
  obtain ⟨us, hl, ho, hr, hd⟩ := h
  exact ⟨us, hl, ownsRow_mono ho hb, fun k hk => (hr k hk).mono hb, hd⟩
/-- a change of one block that is not among these rows: one that is older than all of them -/
theorem OwnRows.kept_lo {w w' : World} {base : Nat} {v : Value} {rows : List (List Int)} (h : OwnRows w base v rows) {row : Option Nat} (hg : w.grownBy w' row) (hlt : ∀ g, row = some g → g < base) : OwnRows w' base v rows := by
  obtain ⟨us, hl, ho, hr, hd⟩ := h
  have key : ∀ {u : Value}, (∀ k, u.ownBlock = some k → base ≤ k ∧ k < w.heap.size) → u.ownBlock = none ∨ u.ownBlock ≠ row := by
    intro u hu
    rcases q : u.ownBlock with _ | k
    · exact .inl rfl
    · right
      intro e
      have := (hu k q).1
      have := hlt k e.symm
      omega
  exact ⟨us, hl, World.ownsRow.kept ho hg (key (World.ownsRow.lt ho)), fun k hk => (hr k hk).kept hg (key (hr k hk).lt), hd⟩
theorem OwnRows.lt {w : World} {base : Nat} {v : Value} {rows : List (List Int)} (h : OwnRows w base v rows) : ∀ k, v.ownBlock = some k → base ≤ k ∧ k < w.heap.size := by
  obtain ⟨us, hl, ho, hr, hd⟩ := h
  exact World.ownsRow.lt ho
/-- a row is changed in place -/
theorem OwnRowsU.row {w w' : World} {base : Nat} {v : Value} {us : List Value} {rows : List (List Int)} (h : OwnRowsU w base v us rows) {i : Nat} {ys : List Int} (hi : i < rows.length)
    (ho' : Own w' base (us.getD i (.slice none 0 0)) ys) (hg : w.grownBy w' (us.getD i (.slice none 0 0)).ownBlock) : OwnRowsU w' base v us (rows.set i ys) := by
  obtain ⟨hl, ho, hr, hd⟩ := h
  refine ⟨by simp [hl], ?_, fun k hk => ?_, fun a b hab hb => hd a b hab (by simpa using hb)⟩
  · rw [List.length_set]
    exact World.ownsRow.kept ho hg (apart_symm' (types_part (hr i hi) ho (by decide)))
  · rw [List.length_set] at hk
    by_cases hik : i = k
    · subst hik
      rw [show (rows.set i ys).getD i [] = ys by simp [List.getD_eq_getElem?_getD, hk]]
      exact ho'
    · rw [show (rows.set i ys).getD k [] = rows.getD k [] by simp [List.getD_eq_getElem?_getD, List.getElem?_set_ne hik]]
      refine (hr k hk).kept hg ?_
      rcases Nat.lt_or_gt_of_ne hik with h1 | h1
      · exact apart_symm' (hd i k h1 hk)
      · exact hd k i h1 hi
theorem OwnRows.form {w : World} {base : Nat} {v : Value} {rows : List (List Int)} (h : OwnRows w base v rows) : ∃ A c, v = .slice A rows.length c ∧ c ≤ maxLen ∧ rows.length ≤ c ∧
    (0 < rows.length → ∃ g, A = some ⟨g, 0, none⟩ ∧ g < w.heap.size ∧ ∀ k, k < rows.length → ∃ (B : Option Addr) (d : Nat), w.cell? ⟨g, k, none⟩ = some (.slice B (rows.getD k []).length d) ∧ Own w base (.slice B (rows.getD k []).length d) (rows.getD k [])) := by
  obtain ⟨us, hl, ho, hr, -⟩ := h
  have hlt := World.ownsRow.lt ho
  have hc := fun g hg => World.ownsRow.cells ho (g := g) hg
  rcases ho.2 with ⟨rfl, e⟩ | ⟨g, cap, cur, rfl, hb, hg, hle, hm, _⟩
  · exact ⟨none, 0, by rw [e], by unfold maxLen; omega, by omega, fun h => absurd h (by omega)⟩
  · refine ⟨_, cap, rfl, hm, hle, fun _ => ⟨g, rfl, (hlt g rfl).2, fun k hk => ?_⟩⟩
    have h1 := hc g rfl k (us.getD k (.slice none 0 0)) (by simp [show k < us.length by omega])
    rw [Addr.add_lit, Nat.zero_add] at h1
    have h2 := hr k hk
    obtain ⟨B, d, e, _⟩ := h2.form
    rw [e] at h1 h2
    exact ⟨B, d, h1, h2⟩
def RdRows (w : World) (v : Value) (rows : List (List Int)) : Prop := ∃ A c, v = .slice A rows.length c ∧ c ≤ maxLen ∧ rows.length ≤ c ∧
    (0 < rows.length → ∃ g, A = some ⟨g, 0, none⟩ ∧ g < w.heap.size ∧ ∀ k, k < rows.length → ∃ u, w.cell? ⟨g, k, none⟩ = some u ∧ Rd w u (rows.getD k []))
theorem OwnRows.rdr {w : World} {base : Nat} {v : Value} {rows : List (List Int)} (h : OwnRows w base v rows) : RdRows w v rows := by
  obtain ⟨A, c, rfl, hc, hl, hx⟩ := h.form
  refine ⟨A, c, rfl, hc, hl, fun h0 => ?_⟩
  obtain ⟨g, rfl, hg, hk⟩ := hx h0
  refine ⟨g, rfl, hg, fun k hkl => ?_⟩
  obtain ⟨B, d, h1, h2⟩ := hk k hkl
  exact ⟨_, h1, h2.rd⟩
theorem RdRows.below {w w' : World} {v : Value} {rows : List (List Int)} (h : RdRows w v rows) (hb : Below w.heap.size w w') : RdRows w' v rows := by
  obtain ⟨A, c, rfl, hc, hl, hx⟩ := h
  refine ⟨A, c, rfl, hc, hl, fun h0 => ?_⟩
  obtain ⟨g, rfl, hg, hk⟩ := hx h0
  refine ⟨g, rfl, Nat.lt_of_lt_of_le hg hb.size, fun k hkl => ?_⟩
  obtain ⟨u, h1, h2⟩ := hk k hkl
  exact ⟨u, by rw [hb.cell (p := ⟨g, k, none⟩) hg]; exact h1, h2.below hb⟩
theorem wp_append1V {ops : Array Oper} {rest : List Oper} {o : Oper} {a : Act} {Q : Exit → Act → World → Prop} (w : World) (hgd : o.guard = none) (s x : Operand)
    (ho : o.op = .call { callee := .builtin .append, args := #[s, x], argTypes := #[40, 40] })
    (base : Nat) (v : Value) (rows : List (List Int)) (u : Value) (xs : List Int) (w0 : World) (hs : a.eval s = v) (hown0 : OwnRows w0 base v rows) (hb0 : Below w0.heap.size w0 w) (hu0 : Own w w0.heap.size u xs) (hbase0 : base ≤ w0.heap.size) (hx : a.eval x = .slice (some ⟨w.heap.size, 0, none⟩) 1 1)
    (hlen : rows.length ≤ 1048576)
    (h : ∀ v' w', OwnRows w' base v' (rows ++ [xs]) → w.grownBy w' v.ownBlock → wpList Try.prog ops Q rest (a.put o.dst v') w') :
    wpList Try.prog ops Q (o :: rest) a (w.alloc (.cells #[u] 23)) := by
  obtain ⟨i0, hi, hz0, hz1, hz2⟩ := info_parts rows_info
  have hu := hu0.mono hbase0
  have hbase : base ≤ w.heap.size := Nat.le_trans hbase0 hb0.size
  obtain ⟨us, hown0⟩ := hown0
  have hlt0 : ∀ k, k < rows.length → ∀ g, (us.getD k (.slice none 0 0)).ownBlock = some g → g < w0.heap.size := fun k hk g hg => ((hown0.2.2.1 k hk).lt g hg).2
  obtain ⟨hl, hor, hr, hd⟩ := hown0.below hb0
  have hor' : (w.alloc (.cells #[u] 23)).ownsRow base 23 1 v rows.length us := World.ownsRow.alloc hor _
  refine wpList_append_own _ hgd s x 40 ho base 23 i0 (.slice none 0 0) 1 24 Try.underlying40 hi hz0 hz1 hz2 rfl (by decide) v rows.length us hs hor' ⟨w.heap.size, 0, none⟩ 1 1 [u] hx rfl ?_ ?_ ?_ ?_ ?_ ?_
  · intro j y hj
    match j, hj with
    | 0, hj => simp at hj; subst hj; simp [Addr.add]
  · intro y hy
    simp at hy
    subst hy
    obtain ⟨B, d, e, _⟩ := hu.form
    rw [e]; rfl
  · unfold maxLen; omega
  · omega
  · simp; omega
  · intro v' w' h1 h2 _
    have h2' := grown_of_alloc h2
    have e1 : ∀ k, k < rows.length → (us ++ [u]).getD k (.slice none 0 0) = us.getD k (.slice none 0 0) := fun k hk => by simp [List.getD_eq_getElem?_getD, List.getElem?_append_left (show k < us.length by omega)]
    have e2 : (us ++ [u]).getD rows.length (.slice none 0 0) = u := by simp [List.getD_eq_getElem?_getD, ← hl]
    refine h v' w' ⟨us ++ [u], by simp [hl], by rw [List.length_append]; exact h1, fun k hk => ?_, fun i j hij hj => ?_⟩ h2'
    · rw [List.length_append, List.length_singleton] at hk
      by_cases hk2 : k < rows.length
      · have e3 : (rows ++ [xs]).getD k [] = rows.getD k [] := by simp [List.getD_eq_getElem?_getD, List.getElem?_append_left hk2]
        rw [e1 k hk2, e3]
        exact (hr k hk2).kept h2' (types_part (hr k hk2) hor (by decide))
      · obtain rfl : k = rows.length := by omega
        have e3 : (rows ++ [xs]).getD rows.length [] = xs := by simp [List.getD_eq_getElem?_getD]
        rw [e2, e3]
        exact hu.kept h2' (types_part hu hor (by decide))
    · rw [List.length_append, List.length_singleton] at hj
      rw [e1 i (by omega)]
      by_cases hj2 : j < rows.length
      · rw [e1 j hj2]; exact hd i j hij hj2
      · obtain rfl : j = rows.length := by omega
        rw [e2]
        rcases q : (us.getD i (.slice none 0 0)).ownBlock with _ | g
        · exact .inl rfl
        · right
          intro e
          have := hlt0 i hij g q
          have := (hu0.lt g e.symm).1
          omega
theorem below_appendV {B : Nat} {a w w' : World} {base : Nat} {v : Value} {rows : List (List Int)} (h : Below B a w) (hg : w.grownBy w' v.ownBlock) (hown : OwnRows w base v rows) (hB : B ≤ base) (hbase : base ≤ w.heap.size) : Below B a w' :=
  h.grown hg (Nat.le_trans hB hbase) (fun k hk => Nat.le_trans hB (hown.lt k hk).1)
end Go.Proofs.Ytkhjdijdcjgpfaa

namespace Go.Proofs.Ytkhjdijdcjgpfaa
open Go.RowKit Go.Sort
set_option maxRecDepth 100000
section
variable {n : Nat} {xs : List Int} {sl : Value} {w : World}
theorem rd_at {A : Option Addr} {c n : Nat} {L : List Int} (h : Rd w (.slice A n c) L) (hl : L.length = n) (h1 : 0 < n) : ∃ g off, A = some ⟨g, off, none⟩ := by
  obtain ⟨A', c', e, -, -, hx⟩ := h
  injection e with e1 _ _
  subst e1
  obtain ⟨g, off, rfl, -, -⟩ := hx (by omega)
  exact ⟨g, off, rfl⟩
theorem rd_cell {g off c n : Nat} {L : List Int} (h : Rd w (.slice (some ⟨g, off, none⟩) n c) L) (hl : L.length = n) {i : Nat} (hi : i < n) : w.cell? ⟨g, off + i, none⟩ = some (.int .i64 (L.getD i 0)) := by
  obtain ⟨A', c', e, -, -, hx⟩ := h
  injection e with e1 _ _
  subst e1
  obtain ⟨g', off', e', -, hc⟩ := hx (by omega)
  injection e' with e'
  injection e' with e1 e2 _
  subst e1 e2
  exact hc i (by omega)
theorem rd_len {A : Option Addr} {c n : Nat} {L : List Int} (h : Rd w (.slice A n c) L) : L.length = n ∧ n ≤ c ∧ c ≤ maxLen := by
  obtain ⟨A', c', e, h1, h2, -⟩ := h
  injection e with _ e2 e3
  subst e3
  omega
theorem rd_rows {A : Option Addr} {c m : Nat} {rows : List (List Int)} (h : RdRows w (.slice A m c) rows) {j : Nat} (hj : j < m) : ∃ g u, A = some ⟨g, 0, none⟩ ∧ w.cell? ⟨g, j, none⟩ = some u ∧ Rd w u (rows.getD j []) := by
  obtain ⟨A', c', e, h1, h2, hx⟩ := h
  injection e with e1 e2 e3
  subst e1
  obtain ⟨g, rfl, -, hc⟩ := hx (by omega)
  obtain ⟨u, h3, h4⟩ := hc j (by omega)
  exact ⟨g, u, rfl, h3, h4⟩
theorem rd_cap {A : Option Addr} {c n : Nat} {L : List Int} (h : Rd w (.slice A n c) L) : c ≤ maxLen := by
  obtain ⟨A', c', e, -, hm, -⟩ := h
  injection e with _ _ e3
  subst e3
  exact hm
theorem in_tour {n : Nat} {c : Nat} (hc : c < n) : inB (c : Int) 0 ((n : Int) - 1) = true := inB_true.2 ⟨by omega, by omega⟩
theorem beat_bt (hp : tourP n xs) {a b : Nat} (ha : a < n) (hb : b < n) : beatB n xs a b = bt xs a b := by
  unfold beatB
  rw [tourB_true.2 hp, in_tour ha, in_tour hb, Int.toNat_natCast, Int.toNat_natCast, bitI_bt (tour_wins hp (tour_len hp ▸ ha)).1]
  rfl
theorem cBeat (hp : tourP n xs) (h : Rd w sl xs) (a b : Nat) (ha : a < n) (hb : b < n) : Calls Try.prog 18 #[.agg #[.int .i64 n, sl], .int .i64 a, .int .i64 b] w fun e w' => e = .returned (.bool (bt xs a b)) ∧ Below w.heap.size w w' :=
  (implDoesBeat n sl xs a b w h).mono fun e w' ⟨h1, h3⟩ => by
    rw [beat_bt hp ha hb] at h1
    exact ⟨h1, h3⟩
end
end Go.Proofs.Ytkhjdijdcjgpfaa

namespace Go.Proofs.Ytkhjdijdcjgpfaa
open Go.RowKit Go.Sort
set_option maxRecDepth 100000

theorem wp_appendN {ops : Array Oper} {rest : List Oper} {o : Oper} {a : Act} {Q : Exit → Act → World → Prop} (w : World) (hgd : o.guard = none) (s x : Operand)
    (ho : o.op = .call { callee := .builtin .append, args := #[s, x], argTypes := #[23, 23] })
    (base : Nat) (v : Value) (xs : List Int) (hs : a.eval s = v) (hown : Own w base v xs) (ad : Addr) (c : Nat) (ys : List Int) (hx : a.eval x = .slice (some ad) ys.length c)
    (hc : ∀ k, k < ys.length → w.cell? (ad.add k) = some (.int .i64 (ys.getD k 0)))
    (hlen : xs.length + ys.length ≤ 1099511627776) (hbase : base ≤ w.heap.size)
    (h : ∀ v' w', Own w' base v' (xs ++ ys) → w.grownBy w' v.ownBlock → wpList Try.prog ops Q rest (a.put o.dst v') w') :
    wpList Try.prog ops Q (o :: rest) a w := by
  obtain ⟨i0, hi, hz0, hz1, hz2⟩ := info_parts i64_info
  have hown' : w.ownsRow base 3 1 v xs.length (xs.map (Value.int .i64)) := hown
  refine wpList_append_own _ hgd s x 23 ho base 3 i0 (.int .i64 0) 1 8 Try.underlying23 hi hz0 hz1 hz2 rfl (by decide) v xs.length (xs.map (Value.int .i64)) hs hown' ad ys.length c (ys.map (Value.int .i64)) hx (by simp) ?_ ?_ ?_ ?_ ?_ ?_
  · intro j u hj
    have hjl : j < ys.length := by simpa using (List.getElem?_eq_some_iff.1 hj).1
    rw [hc j hjl]
    simp [hjl] at hj
    simp [hjl, hj]
  · intro u hu; simp at hu; obtain ⟨y, -, rfl⟩ := hu; rfl
  · unfold maxLen; omega
  · omega
  · exact hbase
  · intro v' w' h1 h2 _
    refine h v' w' ?_ h2
    unfold Own
    rw [List.length_append, List.map_append]
    exact h1
set_option maxHeartbeats 400000 in
theorem clone_any (v : Value) (xs : List Int) (w : World) (h : Rd w v xs) (h0 : 0 < xs.length) (hl : xs.length ≤ 1048576) :
    Calls Try.prog 101 #[v] w fun e w' => ∃ v', e = .returned v' ∧ Own w' w.heap.size v' xs ∧ Below w.heap.size w w' := by
  obtain ⟨A, c, rfl, hlc, hm, hc⟩ := h
  obtain ⟨g, off, rfl, hg, hx⟩ := hc h0
  have hx' : ∀ k, k < xs.length → (w.alloc (.cells #[] 3)).cell? ((⟨g, off, none⟩ : Addr).add k) = some (.int .i64 (xs.getD k 0)) := fun k hk => by
    rw [Addr.add_lit, World.cell?_alloc_lt _ _ _ (by exact hg)]
    exact hx k hk
  have HX := Lib.hid hx'
  have ho := Own.lit w w.heap.size [] (Nat.le_refl _) (by simp)
  have HO := Lib.hid ho
  clear hx hx' hc ho
  generalize hn : xs.length = n at *
  have HN := Lib.hid hn
  have e0 : ∀ w : World, (binOp .eql 23 (.slice (some ⟨g, off, none⟩) n c) (.slice none 0 0)).run Try.prog w = .ok (.bool false) w := fun _ => by kernel_rfl
  go_enter Try.func101, Try.ntmps101
  go_wp2_with (at_builtin; refine wp_appendN (w.alloc (.cells #[] 3)) rfl (.tmp 5) (.tmp 6) rfl w.heap.size _ [] rfl HO.out ⟨g, off, none⟩ c xs (by rw [hn]; simp [Act.eval]) (by rw [hn]; exact HX.out) (by simp; omega) (by simp) ?_; intro v' w' ho hgr; have HO2 := Lib.hid ho; have HG2 := Lib.hid hgr; clear ho hgr)
  go_ret
  exact ⟨_, rfl, by simpa using HO2.out, Below.grown (below_alloc1 w _) HG2.out (by simp) (fun k hk => (HO.out.lt k hk).1)⟩
end Go.Proofs.Ytkhjdijdcjgpfaa

namespace Go.Proofs.Ytkhjdijdcjgpfaa
open Go.RowKit Go.Sort
set_option maxRecDepth 100000

/-- one digit turned over -/
def xorI (x : Int) (b : Nat) : Int := bits BinOp.xor IntKind.i64 x (wrap64 (2 ^ b))
def flipL (xs : List Int) (a b : Nat) : List Int := (xs.set a (xorI (xs.getD a 0) b)).set b (xorI ((xs.set a (xorI (xs.getD a 0) b)).getD b 0) a)
theorem flipL_len (xs : List Int) (a b : Nat) : (flipL xs a b).length = xs.length := by simp [flipL]
set_option maxHeartbeats 2000000 in
theorem flipped_any (s : Int) (sl : Value) (xs : List Int) (a b : Nat) (w : World) (h : Rd w sl xs) (hl : xs.length ≤ 8) (ha : a < xs.length) (hb : b < xs.length) :
    Calls Try.prog 87 #[.agg #[.int .i64 s, sl], .int .i64 a, .int .i64 b] w fun e w' => ∃ sl', e = .returned (.agg #[.int .i64 s, sl']) ∧ Own w' w.heap.size sl' (flipL xs a b) ∧ Below w.heap.size w w' := by
  have HR := Lib.hid h
  obtain ⟨A, c, rfl, -, -, -⟩ := h
  go_enter Try.func87, Try.ntmps87
  go_wp2_with fail
  have b0 := (below_alloc1 w (.cells #[.int .i64 s, .slice A xs.length c] 25)).alloc (by simp) (.cells #[.int .i64 0, .slice none 0 0] 25)
  have x0 := (TBox.new w s (.slice A xs.length c) 25).below (below_alloc1 _ (.cells #[.int .i64 0, .slice none 0 0] 25))
  have t0 := BoxF.new (w.alloc (.cells #[.int .i64 s, .slice A xs.length c] 25)) 0 (.slice none 0 0) 25
  simp only [World.size_alloc] at t0
  generalize (w.alloc (.cells #[.int .i64 s, .slice A xs.length c] 25)).alloc (.cells #[.int .i64 0, .slice none 0 0] 25) = w0 at *
  have HX0 := Lib.hid x0
  have HB0 := Lib.hid b0
  have HT0 := Lib.hid t0
  clear x0 b0 t0
  have y0_0 := HX0.out.1
  have y1_0 := HX0.out.2
  have hg0 := HX0.out.1
  have hgt0 : w.heap.size + 1 < w0.heap.size := HT0.out.gt
  have HDX := Lib.hid (show TBox w0.drew w.heap.size s (.slice A xs.length c) from HX0.out)
  have HDT := Lib.hid (show BoxF w0.drew (w.heap.size + 1) 0 (.slice none 0 0) from HT0.out)
  have HDB := Lib.hid (show Below w.heap.size w w0.drew from ⟨HB0.out.os, HB0.out.tape, HB0.out.output, HB0.out.size, HB0.out.block⟩)
  have bA := below_alloc1 w0 (.cells #[.int .i64 0, .slice none 0 0] 25)
  have hXA := HX0.out.below bA
  have hTA := HT0.out.below bA
  have HAX := Lib.hid (show TBox (w0.alloc (.cells #[.int .i64 0, .slice none 0 0] 25)).drew w.heap.size s (.slice A xs.length c) from hXA)
  have HAT := Lib.hid (show BoxF (w0.alloc (.cells #[.int .i64 0, .slice none 0 0] 25)).drew (w.heap.size + 1) 0 (.slice none 0 0) from hTA)
  have HAU := Lib.hid (show BoxF (w0.alloc (.cells #[.int .i64 0, .slice none 0 0] 25)).drew w0.heap.size 0 (.slice none 0 0) from BoxF.new w0 0 (.slice none 0 0) 25)
  have HAB := Lib.hid (show Below w.heap.size w (w0.alloc (.cells #[.int .i64 0, .slice none 0 0] 25)).drew from (let q := Below.then HB0.out bA; ⟨q.os, q.tape, q.output, q.size, q.block⟩))
  have ya0 := hXA.1
  have ya1 := hXA.2
  clear bA hXA hTA hg0
  go_region_held3 (fun W => W.cell? ⟨w.heap.size, 0, none⟩ = some (.int .i64 s) ∧ W.cell? ⟨w.heap.size, 1, none⟩ = some (.slice A xs.length c))
    (first | exact ⟨y0_0, y1_0⟩ | exact ⟨ya0, ya1⟩ | exact ⟨y0_1, y1_1⟩ | exact ⟨yb0, yb1⟩ | exact ⟨yc0, yc1⟩)
    (first
      | (go_at_call 101; refine (clone_any (.slice A xs.length c) xs w0.drew (HR.out.below HDB.out) (by omega) (by omega)).mono ?_; rintro e w1 ⟨v1, rfl, ho1, hb1⟩; obtain ⟨Y, cy, rfl, hcy, hly, hgy⟩ := ho1.form; have HX1 := Lib.hid (HDX.out.below hb1); have HT1 := Lib.hid (HDT.out.below hb1); have HB1 := Lib.hid (Below.then HDB.out hb1); have y0_1 := HX1.out.1; have y1_1 := HX1.out.2; have HO1 := Lib.hid (show Own w1 w0.heap.size _ _ from ho1); have hXb := HX1.out.below (below_alloc1 w1 (.cells #[.int .i64 0, .slice none 0 0] 25)); have yb0 := hXb.1; have yb1 := hXb.2; have hXc := HX1.out.below (below_alloc1 w1 (.cells #[.int .i64 s, .slice Y xs.length cy] 25)); have yc0 := hXc.1; have yc1 := hXc.2; have WAY : Hid (0 = 0) := rfl; have hs1 := hb1.size; clear hXb hXc ho1 hb1)
      | (go_at_call 101; refine (clone_any (.slice A xs.length c) xs (w0.alloc (.cells #[.int .i64 0, .slice none 0 0] 25)).drew (HR.out.below HAB.out) (by omega) (by omega)).mono ?_; rintro e w1 ⟨v1, rfl, ho1, hb1⟩; obtain ⟨Y, cy, rfl, hcy, hly, hgy⟩ := ho1.form; have HX1 := Lib.hid (HAX.out.below hb1); have HT1 := Lib.hid (HAT.out.below hb1); have HU1 := Lib.hid (HAU.out.below hb1); have HB1 := Lib.hid (Below.then HAB.out hb1); have y0_1 := HX1.out.1; have y1_1 := HX1.out.2; have u0 := HU1.out.1.1; have u1 := HU1.out.1.2; have uf0 := HU1.out.2 0; have uf1 := HU1.out.2 1; have HO1 := Lib.hid (show Own w1 (w0.alloc (.cells #[.int .i64 0, .slice none 0 0] 25)).heap.size _ _ from ho1); have hs1 := hb1.size; have hXc := (HX1.out.kept (setCell_grown _ ⟨w0.heap.size, 0, none⟩ (.int .i64 s)) (by simp; omega)).kept (setCell_grown _ ⟨w0.heap.size, 1, none⟩ (.slice Y xs.length cy)) (by simp; omega); have yc0 := hXc.1; have yc1 := hXc.2; clear hXc ho1 hb1))
  all_goals
    obtain ⟨gy, rfl, hgy1, hgy2⟩ := hgy (by omega)
    clear y0_0 y1_0 y0_1 y1_1 yc0 yc1 ya0 ya1
    first
      | (clear yb0 yb1
         have hs2 : w0.heap.size ≤ w1.heap.size := hs1
         have hs3 : w0.heap.size ≤ gy := hgy1
         have HU := Lib.hid (BoxF.new w1 s (.slice (some ⟨gy, 0, none⟩) xs.length cy) 25)
         have b2 := below_alloc1 w1 (.cells #[.int .i64 s, .slice (some ⟨gy, 0, none⟩) xs.length cy] 25)
         have HT := Lib.hid (HT1.out.below b2)
         have HO := Lib.hid (HO1.out.below b2)
         have HB := Lib.hid (Below.then HB1.out b2)
         have hgu : w.heap.size + 1 < w1.heap.size ∧ w1.heap.size ≠ gy := by omega
         clear b2 HO1 HT1 HB1 HX1
         generalize w1.alloc (.cells #[.int .i64 s, .slice (some ⟨gy, 0, none⟩) xs.length cy] 25) = W at *
         generalize w1.heap.size = gu at *)
      | (have hs2 : w0.heap.size + 1 ≤ gy := by simpa using hgy1
         have HU := Lib.hid (HU1.out.set01 s (.slice (some ⟨gy, 0, none⟩) xs.length cy))
         have HT := Lib.hid ((HT1.out.kept (setCell_grown _ ⟨w0.heap.size, 0, none⟩ (.int .i64 s)) (by simp; omega)).kept (setCell_grown _ ⟨w0.heap.size, 1, none⟩ (.slice (some ⟨gy, 0, none⟩) xs.length cy)) (by simp; omega))
         have HO := Lib.hid (((HO1.out.mono (show w0.heap.size ≤ _ by simp)).kept (setCell_grown _ ⟨w0.heap.size, 0, none⟩ (.int .i64 s)) (by right; simp [Value.ownBlock]; omega)).kept (setCell_grown _ ⟨w0.heap.size, 1, none⟩ (.slice (some ⟨gy, 0, none⟩) xs.length cy)) (by right; simp [Value.ownBlock]; omega))
         have HB := Lib.hid ((HB1.out.setCell (p := ⟨w0.heap.size, 0, none⟩) (show w.heap.size ≤ w0.heap.size by omega) (.int .i64 s)).setCell (p := ⟨w0.heap.size, 1, none⟩) (show w.heap.size ≤ w0.heap.size by omega) (.slice (some ⟨gy, 0, none⟩) xs.length cy))
         have hgu : w.heap.size + 1 < w0.heap.size ∧ w0.heap.size ≠ gy := by omega
         clear u0 u1 uf0 uf1 HO1 HT1 HB1 HX1 HU1
         generalize ((w1.setCell ⟨w0.heap.size, 0, none⟩ (.int .i64 s)).setCell ⟨w0.heap.size, 1, none⟩ (.slice (some ⟨gy, 0, none⟩) xs.length cy)) = W at *
         obtain ⟨gu, hgue⟩ : ∃ gu, gu = w0.heap.size := ⟨_, rfl⟩
         rw [← hgue] at HU hgu ⊢
         clear hgue)
    have hgy3 : w.heap.size + 1 < gy := by omega
    clear hgy1 hgy2
    have za := (HO.out.at1 rfl (by omega)).1 a ha
    obtain ⟨x, hx⟩ : ∃ x, x = xs.getD a 0 := ⟨_, rfl⟩
    obtain ⟨x1, hx1⟩ : ∃ x1, x1 = bits BinOp.xor IntKind.i64 x (wrap64 (2 ^ b)) := ⟨_, rfl⟩
    have HE1 : Hid (x1 = xorI (xs.getD a 0) b) := by unfold Hid xorI; rw [hx1, hx]
    rw [← hx] at za
    have hxor := hx1.symm
    have c1 := cell_regrown HU.out.1.2
    have c2 := cell_regrown za
    clear za hx1 hx
    go_wp2_with fail
    refine wp_region_below_tail 9 (by kernel_rfl) (by kernel_rfl) ?_
    simp only [List.take_succ_cons, List.take_zero, List.drop_succ_cons, List.drop_zero]
    repeat (go_big_quiet_step (first | (with_reducible fail)))
    refine wpQuiet_nil ?_
    intro wq hbq0
    have hbq := Lib.hid hbq0
    clear hbq0
    clear c1 c2 hxor
    have O2 := HO.out.below hbq.out
    obtain ⟨hx2, hf2⟩ := O2.at1 rfl (by omega)
    have za := hx2 a ha
    have fa := hf2 a
    have O3 := (O2.set_ rfl a x1).1
    have HU3 := Lib.hid ((HU.out.below hbq.out).kept (setCell_grown _ ⟨gy, a, none⟩ (.int .i64 x1)) (by simp; omega))
    have HT3 := Lib.hid ((HT.out.below hbq.out).kept (setCell_grown _ ⟨gy, a, none⟩ (.int .i64 x1)) (by simp; omega))
    have HB3 := Lib.hid ((Below.then HB.out hbq.out).setCell (p := ⟨gy, a, none⟩) (show w.heap.size ≤ gy by omega) (.int .i64 x1))
    have HO3 := Lib.hid O3
    have hl1 : (xs.set a x1).length = xs.length := by simp
    clear hx2 hf2 O2 O3 HO HU HT HB
    generalize hL : xs.set a x1 = L at *
    have HL := Lib.hid hL
    clear hL
    generalize hn : xs.length = n at *
    have HN := Lib.hid hn
    go_wp2_with fail
    clear za fa
    have zb := (HO3.out.at1 hl1 (by omega)).1 b hb
    obtain ⟨y, hy⟩ : ∃ y, y = L.getD b 0 := ⟨_, rfl⟩
    obtain ⟨y1, hy1⟩ : ∃ y1, y1 = bits BinOp.xor IntKind.i64 y (wrap64 (2 ^ a)) := ⟨_, rfl⟩
    have HE2 : Hid (y1 = xorI (L.getD b 0) a) := by unfold Hid xorI; rw [hy1, hy]
    rw [← hy] at zb
    have hxor := hy1.symm
    have c1 := cell_regrown HU3.out.1.2
    have c2 := cell_regrown zb
    clear zb hy1 hy
    refine wp_region_below_tail 9 (by kernel_rfl) (by kernel_rfl) ?_
    simp only [List.take_succ_cons, List.take_zero, List.drop_succ_cons, List.drop_zero]
    repeat (go_big_quiet_step (first | (with_reducible fail)))
    refine wpQuiet_nil ?_
    intro wq hbq0
    have hbq := Lib.hid hbq0
    clear hbq0
    clear c1 c2 hxor
    have O2 := HO3.out.below hbq.out
    obtain ⟨hx2, hf2⟩ := O2.at1 hl1 (by omega)
    have zb := hx2 b hb
    have fb := hf2 b
    have O5 := (O2.set_ hl1 b y1).1
    have hl5 : (L.set b y1).length = n := by simp [hl1]
    have HE : Hid (L.set b y1 = flipL xs a b) := by unfold Hid flipL; rw [← HE1.out, HL.out, ← HE2.out]
    have HU5 := (HU3.out.below hbq.out).kept (setCell_grown _ ⟨gy, b, none⟩ (.int .i64 y1)) (by simp; omega)
    have HT5 := (HT3.out.below hbq.out).kept (setCell_grown _ ⟨gy, b, none⟩ (.int .i64 y1)) (by simp; omega)
    have HB5 := Lib.hid ((Below.then HB3.out hbq.out).setCell (p := ⟨gy, b, none⟩) (show w.heap.size ≤ gy by omega) (.int .i64 y1))
    have HO5 := Lib.hid O5
    have HU3q := HU3.out.below hbq.out
    have HT3q := HT3.out.below hbq.out
    clear hx2 hf2 O2 O5 HO3 HU3 HT3 HB3 hbq
    have HTq := HT3q
    have u0 := HU3q.1.1
    have u1 := HU3q.1.2
    have v0 := HT3q.1.1
    have v1 := HT3q.1.2
    have f0 := HT3q.2 0
    have f1 := HT3q.2 1
    have V0 := Lib.hid HT5.1.1
    have V1 := Lib.hid HT5.1.2
    have hgu2 := hgu.2
    have hgu3 : gy ≠ gu := fun e => hgu2 e.symm
    have hgu4 : gy ≠ w.heap.size + 1 := by omega
    clear HTq HU5 HT5
    have HOx := Lib.hid ((HO5.out.kept (setCell_grown _ ⟨w.heap.size + 1, 0, none⟩ (.int .i64 s)) (by right; simp [Value.ownBlock]; omega)).kept (setCell_grown _ ⟨w.heap.size + 1, 1, none⟩ (.slice (some ⟨gy, 0, none⟩) n cy)) (by right; simp [Value.ownBlock]; omega))
    have HBx := Lib.hid ((HB5.out.setCell (p := ⟨w.heap.size + 1, 0, none⟩) (by simp) (.int .i64 s)).setCell (p := ⟨w.heap.size + 1, 1, none⟩) (by simp) (.slice (some ⟨gy, 0, none⟩) n cy))
    have R0 : Hid ((((wq.setCell ⟨gy, b, none⟩ (.int .i64 y1)).setCell ⟨w.heap.size + 1, 0, none⟩ (.int .i64 s)).setCell ⟨w.heap.size + 1, 1, none⟩ (.slice (some ⟨gy, 0, none⟩) n cy)).cell? ⟨w.heap.size + 1, 0, none⟩ = some (.int .i64 s)) := (World.cell?_setCell_other _ _ _ _ (by simp)).trans (World.cell?_setCell_same _ _ _ V0.out)
    have R1 : Hid ((((wq.setCell ⟨gy, b, none⟩ (.int .i64 y1)).setCell ⟨w.heap.size + 1, 0, none⟩ (.int .i64 s)).setCell ⟨w.heap.size + 1, 1, none⟩ (.slice (some ⟨gy, 0, none⟩) n cy)).cell? ⟨w.heap.size + 1, 1, none⟩ = some (.slice (some ⟨gy, 0, none⟩) n cy)) := World.cell?_setCell_same _ _ _ ((World.cell?_setCell_other _ _ _ _ (by simp)).trans V1.out)
    clear HU3q HT3q
    go_wp2
    have r0 := R0.out
    have r1 := R1.out
    refine bodyPost_ret (v := .agg #[.int .i64 s, .slice (some ⟨gy, 0, none⟩) n cy]) (by simp only [results, Try.results87]; simp [go_sem, r0, r1]) rfl ⟨_, rfl, ?_, HBx.out⟩
    rw [← HE.out]
    exact HOx.out.mono (by omega)
end Go.Proofs.Ytkhjdijdcjgpfaa

namespace Go.Proofs.Ytkhjdijdcjgpfaa
open Go.RowKit Go.Sort
set_option maxRecDepth 100000
theorem xor_nat {S b : Nat} (hS : S < 256) (hb : b < 8) : xorI (S : Int) b = ((S ^^^ 2 ^ b : Nat) : Int) := by
  unfold xorI
  rw [shl_nat b (by omega)]
  have : 2 ^ b < 256 := pow_lt8 hb
  exact i64_xor_nat S (2 ^ b) (by omega) (by omega)
theorem flip_at {s : Int} {xs : List Int} (hp : tourP s xs) {a b : Nat} (ha : a < xs.length) (hb : b < xs.length) (hab : a ≠ b) (x : Nat) (hx : x < xs.length) :
    ∃ S : Nat, (flipL xs a b).getD x 0 = (S : Int) ∧ S < 2 ^ xs.length ∧ ∀ y, S.testBit y = ((bt xs x y) ^^ ((x == a && y == b) || (x == b && y == a))) := by
  have h8 : xs.length ≤ 8 := by have h1 := hp.1; have h2 := hp.2.1; omega
  have hw := fun z (hz : z < xs.length) => tour_wins hp hz
  have hsn : s.toNat = xs.length := by have := hp.2.1; omega
  have pw : ∀ c, c < xs.length → 2 ^ c < 2 ^ xs.length := fun c hc => Nat.pow_lt_pow_right (by decide) hc
  have e1 : (xs.set a (xorI (xs.getD a 0) b)).getD b 0 = xs.getD b 0 := getD_set_other _ hab
  unfold flipL
  rw [e1]
  have wa := hw a ha
  have wb := hw b hb
  rw [hsn] at wa wb
  by_cases h1 : x = b
  · subst h1
    rw [getD_set_same _ (by simp [hx]), wb.1, xor_nat wb.2.2 (by omega)]
    refine ⟨_, rfl, Nat.xor_lt_two_pow wb.2.1 (pw a ha), fun y => ?_⟩
    rw [Nat.testBit_xor, Nat.testBit_two_pow]
    have q : (x == a) = false := by simp; omega
    by_cases e : a = y
    · subst e; simp [q, bt]
    · have : (y == a) = false := by simp; omega
      simp [q, bt, e, this]
  · rw [getD_set_other _ (Ne.symm h1)]
    by_cases h2 : x = a
    · subst h2
      rw [getD_set_same _ hx, wa.1, xor_nat wa.2.2 (by omega)]
      refine ⟨_, rfl, Nat.xor_lt_two_pow wa.2.1 (pw b hb), fun y => ?_⟩
      rw [Nat.testBit_xor, Nat.testBit_two_pow]
      have q : (x == b) = false := by simp; omega
      by_cases e : b = y
      · subst e; simp [q, bt]
      · have : (y == b) = false := by simp; omega
        simp [q, bt, e, this]
    · rw [getD_set_other _ (Ne.symm h2)]
      have wx := hw x hx
      rw [hsn] at wx
      refine ⟨_, wx.1, wx.2.1, fun y => ?_⟩
      have q1 : (x == a) = false := by simp; omega
      have q2 : (x == b) = false := by simp; omega
      simp [q1, q2, bt]
theorem flip_tour {s : Int} {xs : List Int} (hp : tourP s xs) {a b : Nat} (ha : a < xs.length) (hb : b < xs.length) (hab : a ≠ b) : tourP s (flipL xs a b) := by
  have hl := flipL_len xs a b
  have ht := tour_bits hp
  have hbt : ∀ x y, x < xs.length → bt (flipL xs a b) x y = ((bt xs x y) ^^ ((x == a && y == b) || (x == b && y == a))) := fun x y hx => by
    obtain ⟨S, e, -, h⟩ := flip_at hp ha hb hab x hx
    show (winsN (flipL xs a b) x).testBit y = _
    unfold winsN
    rw [e, Int.toNat_natCast]
    exact h y
  refine tour_of_bits hp.1 (by rw [hl]; exact hp.2.1) (fun i hi => ?_) (fun x hx => ?_) (fun x y hx hy hxy => ?_)
  · rw [hl] at hi ⊢
    obtain ⟨S, e, h, -⟩ := flip_at hp ha hb hab i hi
    exact ⟨S, e, h⟩
  · rw [hl] at hx
    rw [hbt x x hx, ht.2.1 x hx]
    have q : ((x == a && x == b) || (x == b && x == a)) = false := by
      rcases e : ((x == a && x == b) || (x == b && x == a)) with _ | _
      · rfl
      · simp at e; omega
    rw [q]; rfl
  · rw [hl] at hx hy
    rw [hbt x y hx, hbt y x hy, ht.2.2 x y hx hy hxy]
    have q : ((y == a && x == b) || (y == b && x == a)) = ((x == a && y == b) || (x == b && y == a)) := by
      rw [Bool.or_comm, Bool.and_comm (y == b), Bool.and_comm (y == a)]
    rw [q]
    cases bt xs y x <;> cases ((x == a && y == b) || (x == b && y == a)) <;> rfl
end Go.Proofs.Ytkhjdijdcjgpfaa

namespace Go.Proofs.Ytkhjdijdcjgpfaa
open Go.RowKit Go.Sort
set_option maxRecDepth 100000
/-- one pair: the lowest digit turns its result -/
def alStep (s : Nat × List Int) (a b : Nat) : Nat × List Int := (s.1 / 2, if s.1 % 2 = 1 then flipL s.2 a b else s.2)
def alIn (a : Nat) : Nat → Nat → Nat × List Int → Nat × List Int
  | 0, _, s => s
  | m + 1, b, s => alIn a m (b + 1) (alStep s a b)
def alOut (n : Nat) : Nat → Nat → Nat × List Int → Nat × List Int
  | 0, _, s => s
  | m + 1, a, s => alOut n m (a + 1) (alIn a (n - (a + 1)) (a + 1) s)
def al0 (n : Nat) : List Int := toL (fun a b => decide (b < a)) n
def allL (n code : Nat) : List Int := (alOut n n 0 (code, al0 n)).2
theorem al0_tour {n : Nat} (h1 : 1 ≤ n) (h8 : n ≤ 8) : tourP n (al0 n) := by
  have hl : (al0 n).length = n := toL_len _ _
  have hg : ∀ i, i < n → (al0 n).getD i 0 = ((setOf (toQ (fun a b => decide (b < a)) i) n : Nat) : Int) := fun i hi => by unfold al0 toL; simp [hi]
  have hb : ∀ a b, a < n → b < n → bt (al0 n) a b = (!(a == b) && decide (b < a)) := fun a b ha hb => by
    unfold bt winsN
    rw [hg a ha, Int.toNat_natCast, testBit_setOf]
    simp [hb, toQ]
  refine tour_of_bits ⟨by omega, by omega⟩ (by omega) (fun i hi => ?_) (fun a ha => ?_) (fun a b ha hb' hab => ?_)
  · rw [hl] at hi ⊢
    exact ⟨_, hg i hi, setOf_lt _ _⟩
  · rw [hl] at ha
    rw [hb a a ha ha]; simp
  · rw [hl] at ha hb'
    rw [hb a b ha hb', hb b a hb' ha]
    rcases Nat.lt_or_gt_of_ne hab with h | h
    · simp [show ¬ b < a by omega, h, show ¬ b = a by omega]
    · simp [show ¬ a < b by omega, h, show ¬ a = b by omega]
theorem alStep_tour {n : Nat} {s : Nat × List Int} {a b : Nat} (hp : tourP n s.2) (ha : a < n) (hb : b < n) (hab : a ≠ b) : tourP n (alStep s a b).2 := by
  unfold alStep
  have hl : s.2.length = n := by have := hp.2.1; omega
  dsimp only
  split
  · exact flip_tour hp (by omega) (by omega) hab
  · exact hp
theorem alIn_tour {n a : Nat} (ha : a < n) : ∀ (m b : Nat) (s : Nat × List Int), b + m ≤ n → a < b → tourP n s.2 → tourP n (alIn a m b s).2 := by
  intro m
  induction m with
  | zero => intro b s _ _ h; exact h
  | succ m ih => intro b s hb hab h; exact ih (b + 1) _ (by omega) (by omega) (alStep_tour h ha (by omega) (by omega))
theorem alOut_tour {n : Nat} : ∀ (m a : Nat) (s : Nat × List Int), a + m ≤ n → tourP n s.2 → tourP n (alOut n m a s).2 := by
  intro m
  induction m with
  | zero => intro a s _ h; exact h
  | succ m ih => intro a s ha h; exact ih (a + 1) _ (by omega) (alIn_tour (by omega) _ _ _ (by omega) (by omega) h)
theorem all_tour {n : Nat} (h1 : 1 ≤ n) (h8 : n ≤ 8) (code : Nat) : tourP n (allL n code) := alOut_tour n 0 _ (by omega) (al0_tour h1 h8)
end Go.Proofs.Ytkhjdijdcjgpfaa

namespace Go.Proofs.Ytkhjdijdcjgpfaa
open Go.RowKit Go.Sort
set_option maxRecDepth 100000
section
variable {n : Nat} {xs : List Int}
theorem dom_iff (hp : tourP n xs) {S : Nat} (hS : S < 2 ^ n) : domN xs S = true ↔ ∀ c, c < n → S.testBit c = true ∨ ∃ b, b < n ∧ S.testBit b = true ∧ bt xs b c = true := by
  have hln := tour_len hp
  have h8 : n ≤ 8 := by have := hp.1; omega
  have hM : ∀ b ∈ memN S 8, b < n := fun b hb => bit_lt hS (mem_memN.1 hb).2
  unfold domN
  rw [hln, beq_iff_eq]
  have key : ∀ c, (orK xs (memN S 8) S).testBit c = true ↔ S.testBit c = true ∨ ∃ b, b < n ∧ S.testBit b = true ∧ bt xs b c = true := fun c => by
    rw [testBit_orK, Bool.or_eq_true, List.any_eq_true]
    constructor
    · rintro (h | ⟨b, hb, h⟩)
      · exact .inl h
      · exact .inr ⟨b, hM b hb, (mem_memN.1 hb).2, h⟩
    · rintro (h | ⟨b, hb, h1, h2⟩)
      · exact .inl h
      · exact .inr ⟨b, mem_memN.2 ⟨by omega, h1⟩, h2⟩
  constructor
  · intro h c hc
    refine (key c).1 ?_
    rw [h, testBit_full]
    simpa using hc
  · intro h
    refine Nat.eq_of_testBit_eq fun c => ?_
    rw [testBit_full, Bool.eq_iff_iff, decide_eq_true_eq]
    constructor
    · intro hc
      rcases (key c).1 hc with h1 | ⟨b, hb, -, h2⟩
      · exact bit_lt hS h1
      · exact bt_hi hp hb h2
    · intro hc; exact (key c).2 (h c hc)
theorem full_lt (n : Nat) : 2 ^ n - 1 < 2 ^ n := by have := Nat.one_le_two_pow (n := n); omega
theorem dom_full (hp : tourP n xs) : domN xs (2 ^ n - 1) = true := (dom_iff hp (full_lt n)).2 fun c hc => .inl (by rw [testBit_full]; simpa using hc)
theorem ld_facts (hp : tourP n xs) : ∀ k, k < 2 ^ n → 1 ≤ ldK xs n k ∧ domN xs (ldK xs n k) = true ∧ ∀ S, 1 ≤ S → S ≤ k → domN xs S = true → popN 8 (ldK xs n k) ≤ popN 8 S := by
  have hn : 1 ≤ n := by have := hp.1; omega
  intro k
  induction k with
  | zero =>
    intro _
    refine ⟨?_, dom_full hp, fun S h1 h2 => by omega⟩
    have := Nat.pow_le_pow_right (n := 2) (by decide) hn
    show 1 ≤ 2 ^ n - 1
    omega
  | succ k ih =>
    intro hk
    obtain ⟨h1, h2, h3⟩ := ih (by omega)
    show 1 ≤ ldStep xs (ldK xs n k) (k + 1) ∧ domN xs (ldStep xs (ldK xs n k) (k + 1)) = true ∧ ∀ S, 1 ≤ S → S ≤ k + 1 → domN xs S = true → popN 8 (ldStep xs (ldK xs n k) (k + 1)) ≤ popN 8 S
    unfold ldStep
    by_cases hc : popN 8 (k + 1) < popN 8 (ldK xs n k) ∧ domN xs (k + 1) = true
    · rw [if_pos hc]
      refine ⟨by omega, hc.2, fun S hS1 hS2 hd => ?_⟩
      by_cases e : S = k + 1
      · subst e; exact Nat.le_refl _
      · have := h3 S hS1 (by omega) hd; omega
    · rw [if_neg hc]
      refine ⟨h1, h2, fun S hS1 hS2 hd => ?_⟩
      by_cases e : S = k + 1
      · subst e
        refine Nat.le_of_not_lt fun h => hc ⟨h, hd⟩
      · exact h3 S hS1 (by omega) hd
def ldN (xs : List Int) (n : Nat) : Nat := ldK xs n (2 ^ n - 1)
theorem ld_lt (xs : List Int) (n : Nat) : ldN xs n < 2 ^ n := ldK_lt xs n _ (full_lt n)
theorem ld_dom (hp : tourP n xs) : 1 ≤ ldN xs n ∧ domN xs (ldN xs n) = true := ⟨(ld_facts hp _ (full_lt n)).1, (ld_facts hp _ (full_lt n)).2.1⟩
theorem ld_min (hp : tourP n xs) {S : Nat} (h1 : 1 ≤ S) (hS : S < 2 ^ n) (hd : domN xs S = true) : popN 8 (ldN xs n) ≤ popN 8 S := (ld_facts hp _ (full_lt n)).2.2 S h1 (by omega) hd
theorem n256 (hp : tourP n xs) {S : Nat} (hS : S < 2 ^ n) : S < 256 := Nat.lt_of_lt_of_le hS (Nat.pow_le_pow_right (n := 2) (j := 8) (by decide) (by have := hp.1; omega))
theorem pop_pos {S c : Nat} (hS : S < 256) (h : S.testBit c = true) : 1 ≤ popN 8 S := by
  rw [pop_mem hS]
  exact List.length_pos_of_mem (mem_memN.2 ⟨bit_lt (n := 8) hS h, h⟩)
theorem pop_one {S : Nat} (hS : S < 256) (h : popN 8 S = 1) : ∃ a, S = 2 ^ a := by
  rw [pop_mem hS, List.length_eq_one_iff] at h
  obtain ⟨a, ha⟩ := h
  refine ⟨a, Nat.eq_of_testBit_eq fun j => ?_⟩
  rw [Nat.testBit_two_pow, Bool.eq_iff_iff, decide_eq_true_eq]
  constructor
  · intro hj
    have : j ∈ memN S 8 := mem_memN.2 ⟨bit_lt (n := 8) hS hj, hj⟩
    rw [ha] at this
    exact (List.mem_singleton.1 this).symm
  · rintro rfl
    exact (mem_memN.1 (show a ∈ memN S 8 by rw [ha]; simp)).2
/-- a least dominating set is one player if there is a sovereign -/
theorem ld_one (hp : tourP n xs) : popN 8 (ldN xs n) = 1 ↔ ∃ a, svP xs n a := by
  have h8 : n ≤ 8 := by have := hp.1; omega
  have hl := n256 hp (ld_lt xs n)
  constructor
  · intro h
    obtain ⟨a, ha⟩ := pop_one hl h
    have hd := (ld_dom hp).2
    have hlt := ld_lt xs n
    rw [ha] at hd hlt
    have han : a < n := (Nat.pow_lt_pow_iff_right (by decide)).1 hlt
    refine ⟨a, han, fun b hb => ?_⟩
    by_cases hba : b = a
    · subst hba; exact (tr_bit hp hb hb).1 rfl
    · rcases (dom_iff hp hlt).1 hd b hb with h1 | ⟨c, hc, h1, h2⟩
      · rw [Nat.testBit_two_pow, decide_eq_true_eq] at h1; exact absurd h1.symm hba
      · rw [Nat.testBit_two_pow, decide_eq_true_eq] at h1
        subst h1
        exact (bt_asym hp han hb h2).1
  · rintro ⟨a, ha, hs⟩
    have h1 : 2 ^ a < 2 ^ n := Nat.pow_lt_pow_right (by decide) ha
    have hd : domN xs (2 ^ a) = true := (dom_iff hp h1).2 fun c hc => by
      by_cases e : c = a
      · subst e; exact .inl (by rw [Nat.testBit_two_pow]; simp)
      · exact .inr ⟨a, ha, by rw [Nat.testBit_two_pow]; simp, (bt_flip hp ha hc (Ne.symm e)).2 (hs c hc)⟩
    have h2 := ld_min hp (Nat.one_le_two_pow) h1 hd
    rw [pop_pow (by omega)] at h2
    obtain ⟨c, hc⟩ := Nat.exists_testBit_of_ne_zero (show ldN xs n ≠ 0 by have := (ld_dom hp).1; omega)
    have := pop_pos hl hc
    omega
/-- nobody is left out of a least dominating set -/
theorem ld_less (hp : tourP n xs) {a : Nat} (ha : (ldN xs n).testBit a = true) (h2 : 1 < popN 8 (ldN xs n)) :
    ldN xs n - 2 ^ a = less (ldN xs n) (2 ^ a) ∧ 1 ≤ less (ldN xs n) (2 ^ a) ∧ less (ldN xs n) (2 ^ a) < 2 ^ n ∧ domN xs (less (ldN xs n) (2 ^ a)) = false := by
  have hl := n256 hp (ld_lt xs n)
  have ha8 : a < 8 := bit_lt (n := 8) hl ha
  have hlt : less (ldN xs n) (2 ^ a) < 2 ^ n := less_lt (ld_lt xs n)
  have hsub : ldN xs n - 2 ^ a = less (ldN xs n) (2 ^ a) := sub_less (by omega) (by omega) ha
  have hcard : cardN (less (ldN xs n) (2 ^ a)) 8 + cardN (2 ^ a) 8 = cardN (ldN xs n) 8 := card_split (fun c hc => by
    rw [Nat.testBit_two_pow, decide_eq_true_eq] at hc; subst hc; exact ha) 8
  have e1 : cardN (2 ^ a) 8 = 1 := by
    show (memN (2 ^ a) 8).length = 1
    rw [← pop_mem (Nat.pow_lt_pow_right (n := 8) (by decide) ha8), pop_pow ha8]
  have e2 : cardN (ldN xs n) 8 = popN 8 (ldN xs n) := (pop_mem hl).symm
  have e3 : cardN (less (ldN xs n) (2 ^ a)) 8 = popN 8 (less (ldN xs n) (2 ^ a)) := (pop_mem (n256 hp hlt)).symm
  have h1 : 1 ≤ less (ldN xs n) (2 ^ a) := by
    refine Nat.pos_of_ne_zero fun e => ?_
    rw [e, popN_zero] at e3
    rw [e] at hcard
    omega
  refine ⟨hsub, h1, hlt, ?_⟩
  rcases q : domN xs (less (ldN xs n) (2 ^ a)) with _ | _
  · rfl
  · have := ld_min hp h1 hlt q
    omega
/-- the kings dominate -/
theorem kings_dom (hp : tourP n xs) : domN xs (kgS xs n) = true := (dom_iff hp kg_lt).2 fun c hc => by
  rcases q : kingN xs c with _ | _
  · right
    have hex : ∃ b, b < n ∧ bt xs b c = true := by
      refine Classical.byContradiction fun h => ?_
      have hs : svP xs n c := ⟨hc, fun b hb => by
        rcases q2 : bt xs b c with _ | _
        · rfl
        · exact absurd ⟨b, hb, q2⟩ h⟩
      rw [(sv_king hp hs c hc).2 rfl] at q
      cases q
    obtain ⟨h1, h2, h3⟩ := kst_king hp hc hex
    exact ⟨_, h1, kg_bit.2 ⟨h1, h3⟩, h2⟩
  · exact .inl (kg_bit.2 ⟨hc, q⟩)
theorem kg_pos (hp : tourP n xs) : 1 ≤ kgS xs n := by
  obtain ⟨a, ha, hk⟩ := king_ex hp
  refine Nat.pos_of_ne_zero fun e => ?_
  have := kg_bit.2 ⟨ha, hk⟩
  rw [e, Nat.zero_testBit] at this
  cases this
theorem bkK_lt (hp : tourP n xs) : bkK xs n (2 ^ n - 1) < 2 ^ n := lt_of_testBit fun m hm => by
  rcases q : (bkK xs n (2 ^ n - 1)).testBit m with _ | _
  · rfl
  · have := (bk_king hp q).1; omega
/-- what the law asks of the sets of kings -/
theorem kg_law (hp : tourP n xs) : ∃ k b : Nat, ∃ s : Int, k = kgS xs n ∧ b = bkK xs n (2 ^ n - 1) ∧ s = svI xs n ∧ 1 ≤ k ∧ k < 256 ∧ 1 ≤ b ∧ b < 256 ∧ less b k = 0 ∧ popN 8 k ≠ 2 ∧
    ((popN 8 k = 1 ∧ 0 ≤ s ∧ k = b ∧ popN 8 b = 1) ∨ (popN 8 k ≠ 1 ∧ s = -1)) := by
  have h8 : n ≤ 8 := by have := hp.1; omega
  have hk := n256 hp (kg_lt (xs := xs) (n := n))
  have hb := n256 hp (bkK_lt hp)
  obtain ⟨c, hc⟩ := bk_some hp
  have hb1 : 1 ≤ bkK xs n (2 ^ n - 1) := Nat.pos_of_ne_zero fun e => by rw [e, Nat.zero_testBit] at hc; cases hc
  have hsub : ∀ c, (bkK xs n (2 ^ n - 1)).testBit c = true → (kgS xs n).testBit c = true := fun c h => kg_bit.2 (bk_king hp h)
  have hless : less (bkK xs n (2 ^ n - 1)) (kgS xs n) = 0 := Nat.eq_of_testBit_eq fun j => by
    rw [testBit_less, Nat.zero_testBit]
    rcases q : (bkK xs n (2 ^ n - 1)).testBit j with _ | _
    · rfl
    · rw [hsub j q]; rfl
  refine ⟨_, _, _, rfl, rfl, rfl, kg_pos hp, hk, hb1, hb, hless, ?_⟩
  rcases svI_facts hp with ⟨a, e, hs⟩ | ⟨e, hs⟩
  · have hkA := sv_kings hp hs
    have han : a < 8 := by have := hs.1; omega
    have hbA : bkK xs n (2 ^ n - 1) = 2 ^ a := Nat.eq_of_testBit_eq fun j => by
      rw [Nat.testBit_two_pow, Bool.eq_iff_iff, decide_eq_true_eq]
      constructor
      · intro h
        have := hsub j h
        rw [hkA, Nat.testBit_two_pow, decide_eq_true_eq] at this
        exact this
      · rintro rfl
        have h2 := hsub c hc
        rw [hkA, Nat.testBit_two_pow, decide_eq_true_eq] at h2
        rw [h2]; exact hc
    rw [hkA, hbA, e, pop_pow han]
    exact ⟨by decide, .inl ⟨rfl, by omega, rfl, rfl⟩⟩
  · have := king_three hp hs
    exact ⟨by omega, .inr ⟨by omega, e⟩⟩
/-- what the law asks of each player -/
theorem kg_player (hp : tourP n xs) {a : Nat} (ha : a < n) : ∃ x y : Nat, x = climbF xs 9 a ∧ y = kstepN xs a ∧ x < n ∧ y < n ∧ kingN xs x = true ∧ (kingN xs a = true → x = a) ∧ (y ≠ a → bt xs y a = true) ∧ (y = a ↔ (a : Int) = svI xs n) := by
  have hln := tour_len hp
  have hstep : ∀ a, a < n → (∃ b, b < n ∧ bt xs b a = true) ∨ svP xs n a := fun a ha => by
    by_cases h : ∃ b, b < n ∧ bt xs b a = true
    · exact .inl h
    · refine .inr ⟨ha, fun b hb => ?_⟩
      rcases q : bt xs b a with _ | _
      · rfl
      · exact absurd ⟨b, hb, q⟩ h
  have hclimb : climbF xs 9 a < n ∧ kingN xs (climbF xs 9 a) = true := by
    rcases q : kingN xs a with _ | _
    · rw [← climb_step hp (by omega) q]
      rcases hstep a ha with h | h
      · obtain ⟨h1, h2, h3⟩ := kst_king hp ha h
        rw [climb_stop h3]
        exact ⟨h1, h3⟩
      · rw [(sv_king hp h a ha).2 rfl] at q; cases q
    · rw [climb_stop q]; exact ⟨ha, q⟩
  refine ⟨_, _, rfl, rfl, hclimb.1, ?_, hclimb.2, fun h => climb_stop h, ?_, ?_⟩
  · have := kstep_lt (xs := xs) (a := a) (by omega); omega
  · intro h
    rcases hstep a ha with h1 | h1
    · exact (kst_king hp ha h1).2.1
    · exact absurd (kst_none hp h1.2) h
  · rcases svI_facts hp with ⟨s, e, hs⟩ | ⟨e, hs⟩
    · constructor
      · intro h
        rcases hstep a ha with h1 | h1
        · have h2 := (kst_king hp ha h1).2.1
          rw [h, (tr_bit hp ha ha).1 rfl] at h2; cases h2
        · have h3 : a = s := (sv_king hp hs a ha).1 ((sv_king hp h1 a ha).2 rfl)
          rw [e, h3]
      · intro h
        have : a = s := by omega
        subst this
        exact kst_none hp hs.2
    · constructor
      · intro h
        rcases hstep a ha with h1 | h1
        · have h2 := (kst_king hp ha h1).2.1
          rw [h, (tr_bit hp ha ha).1 rfl] at h2; cases h2
        · exact absurd h1 (hs a)
      · intro h; omega
/-- who has the greatest score is a king -/
theorem top_king (hp : tourP n xs) {a : Nat} (ha : a < n) (h : ∀ c, c < n → scN xs c ≤ scN xs a) : kingN xs a = true := by
  have hln := tour_len hp
  rcases q : kingN xs a with _ | _
  · have h1 := step_up hp (by omega) q
    have h2 := h (kstepN xs a) (by have := kstep_lt (xs := xs) (a := a) (by omega); omega)
    unfold scN at h2
    omega
  · rfl
/-! contracts -/
variable {sl : Value} {w : World}
theorem cKing (hp : tourP n xs) (h : Rd w sl xs) (a : Nat) (ha : a < n) : Calls Try.prog 17 #[.agg #[.int .i64 n, sl], .int .i64 a] w fun e w' => e = .returned (.bool (kingN xs a)) ∧ Below w.heap.size w w' := by
  have := implIsKing n sl xs a w h
  rwa [show kingB n xs a = kingN xs a by unfold kingB; rw [tourB_true.2 hp, in_tour ha, Int.toNat_natCast]; simp] at this
theorem cStep (hp : tourP n xs) (h : Rd w sl xs) (a : Nat) (ha : a < n) : Calls Try.prog 16 #[.agg #[.int .i64 n, sl], .int .i64 a] w fun e w' => e = .returned (.int .i64 (kstepN xs a : Nat)) ∧ Below w.heap.size w w' := by
  have := implKingStep n sl xs a w h
  rwa [show kstepI n xs a = (kstepN xs a : Nat) by unfold kstepI; rw [tourB_true.2 hp, in_tour ha, Int.toNat_natCast]; simp] at this
theorem cClimb (hp : tourP n xs) (h : Rd w sl xs) (a : Nat) (ha : a < n) : Calls Try.prog 15 #[.agg #[.int .i64 n, sl], .int .i64 a] w fun e w' => e = .returned (.int .i64 (climbF xs 9 a : Nat)) ∧ Below w.heap.size w w' := by
  have := implClimb n sl xs a w h
  rwa [show climbI n xs a = (climbF xs 9 a : Nat) by unfold climbI; rw [tourB_true.2 hp, in_tour ha, Int.toNat_natCast]; simp] at this
theorem cScore (hp : tourP n xs) (h : Rd w sl xs) (a : Nat) (ha : a < n) : Calls Try.prog 13 #[.agg #[.int .i64 n, sl], .int .i64 a] w fun e w' => e = .returned (.int .i64 (scN xs a)) ∧ Below w.heap.size w w' := by
  have := implScoreOf n sl xs a w h
  rwa [show scI n xs a = scN xs a by unfold scI scN; rw [tourB_true.2 hp, in_tour ha, Int.toNat_natCast]; simp] at this
def cvB (xs : List Int) (c a : Nat) : Bool := bt xs c a && decide (less (winsN xs a) (winsN xs c) = 0)
theorem cvB_iff (hp : tourP n xs) {c a : Nat} (ha : a < n) : cvB xs c a = true ↔ cvN xs n c a := by
  unfold cvB cvN
  rw [Bool.and_eq_true, decide_eq_true_eq]
  refine and_congr_right fun _ => ?_
  constructor
  · intro h j _ hj
    have := congrArg (fun z => z.testBit j) h
    simp only [testBit_less, Nat.zero_testBit] at this
    rw [show (winsN xs a).testBit j = true from hj] at this
    rcases q : bt xs c j with _ | _
    · rw [show (winsN xs c).testBit j = false from q] at this; cases this
    · rfl
  · intro h
    refine Nat.eq_of_testBit_eq fun j => ?_
    rw [testBit_less, Nat.zero_testBit]
    rcases q : (winsN xs a).testBit j with _ | _
    · rfl
    · rw [show (winsN xs c).testBit j = true from h j (bt_hi hp ha q) q]; rfl
theorem cCover (hp : tourP n xs) (h : Rd w sl xs) (a b : Nat) (ha : a < n) (hb : b < n) : Calls Try.prog 14 #[.agg #[.int .i64 n, sl], .int .i64 a, .int .i64 b] w fun e w' => e = .returned (.bool (cvB xs a b)) ∧ Below w.heap.size w w' := by
  have h8 : n ≤ 8 := by have := hp.1; omega
  have hln := tour_len hp
  have hwa := tour_wins hp (a := a) (by omega)
  have hwb := tour_wins hp (a := b) (by omega)
  have e := i64_andNot_nat (winsN xs b) (winsN xs a) (by omega) (by omega)
  have := implDoesCover n sl xs a b w h
  rwa [show coverB n xs a b = cvB xs a b by
    unfold coverB cvB
    rw [beat_bt hp ha hb, Int.toNat_natCast, Int.toNat_natCast, hwa.1, hwb.1, e]
    congr 1
    rw [Bool.eq_iff_iff, beq_iff_eq, decide_eq_true_eq]
    omega] at this
end
/-! counts of tours by their kings -/
noncomputable def ckN (n k : Nat) (l : List Nat) : Nat := (l.filter fun c => decide (popN 8 (kgS (allL n c) n) = k)).length
theorem ck_snoc (n k : Nat) (l : List Nat) (c : Nat) : ckN n k (l ++ [c]) = ckN n k l + (decide (popN 8 (kgS (allL n c) n) = k)).toNat := by
  unfold ckN
  rw [List.filter_append, List.length_append]
  congr 1
  rw [List.filter_cons]
  cases decide (popN 8 (kgS (allL n c) n) = k) <;> simp
theorem ck_le (n k : Nat) (l : List Nat) : ckN n k l ≤ l.length := List.length_filter_le _ _
def sumK (f : Nat → Nat) : Nat → Nat
  | 0 => 0
  | k + 1 => sumK f k + f k
theorem sumK_add (f g : Nat → Nat) : ∀ k, sumK (fun i => f i + g i) k = sumK f k + sumK g k := by
  intro k
  induction k with
  | zero => rfl
  | succ k ih => simp only [sumK, ih]; omega
theorem sumK_one {v : Nat} : ∀ k, v < k → sumK (fun i => (decide (v = i)).toNat) k = 1 := by
  have h0 : ∀ k, k ≤ v → sumK (fun i => (decide (v = i)).toNat) k = 0 := by
    intro k
    induction k with
    | zero => intro _; rfl
    | succ k ih => intro h; simp only [sumK]; rw [ih (by omega), decide_eq_false (by omega)]; rfl
  intro k
  induction k with
  | zero => intro h; omega
  | succ k ih =>
    intro h
    simp only [sumK]
    by_cases e : v = k
    · subst e; rw [h0 v (Nat.le_refl _)]; simp
    · rw [ih (by omega), decide_eq_false e]; rfl
/-- each tour has some number of kings -/
theorem ck_total {n : Nat} (h1 : 1 ≤ n) (h8 : n ≤ 8) (l : List Nat) : sumK (fun k => ckN n k l) (n + 1) = l.length := by
  generalize hm : l.length = m
  induction m generalizing l with
  | zero =>
    obtain rfl := List.length_eq_zero_iff.1 hm
    have : ∀ k, sumK (fun k => ckN n k []) k = 0 := by
      intro k
      induction k with
      | zero => rfl
      | succ k ih => simp only [sumK, ih]; rfl
    exact this _
  | succ m ih =>
    obtain ⟨l', c, rfl⟩ : ∃ l' c, l = l' ++ [c] := ⟨l.dropLast, l.getLast (by intro e; subst e; cases hm), (List.dropLast_concat_getLast _).symm⟩
    have h2 := ih l' (by simpa using hm)
    have e : (fun k => ckN n k (l' ++ [c])) = fun k => ckN n k l' + (decide (popN 8 (kgS (allL n c) n) = k)).toNat := by
      funext k; exact ck_snoc n k l' c
    have hp := all_tour h1 h8 c
    have hle : popN 8 (kgS (allL n c) n) < n + 1 := by
      rw [pop_mem (n256 hp kg_lt)]
      have : memN (kgS (allL n c) n) 8 = memN (kgS (allL n c) n) n := memN_top h8 (Nat.div_eq_of_lt kg_lt)
      rw [this]
      have := memN_len (kgS (allL n c) n) n
      omega
    rw [e, sumK_add, h2, sumK_one _ hle]
theorem ck_two {n : Nat} (h1 : 1 ≤ n) (h8 : n ≤ 8) (l : List Nat) : ckN n 2 l = 0 := by
  unfold ckN
  rw [List.length_eq_zero_iff, List.filter_eq_nil_iff]
  intro c _ h
  rw [decide_eq_true_eq] at h
  obtain ⟨k, b, s, rfl, -, -, -, -, -, -, -, h2, -⟩ := kg_law (all_tour h1 h8 c)
  exact h2 h
end Go.Proofs.Ytkhjdijdcjgpfaa

