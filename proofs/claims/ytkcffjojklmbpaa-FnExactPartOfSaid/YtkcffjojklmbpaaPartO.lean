/- FnExactPartOf: impl.PartOf. -/
import Derived.Test.YtkcffjojklmbpaaRevs
import Derived.Test.YtkcffjojklmbpaaHof
namespace Go.Proofs.Ytkcffjojklmbpaa
open Go.RowKit Go.Sort
set_option maxRecDepth 100000
theorem bit_test0 (S d : Nat) : (bits BinOp.and IntKind.i64 ((S : Int) / 2 ^ d) 1 == 0) = !S.testBit d := by
  have h := bit_test S d
  rw [i64_and_one] at h ⊢
  have h2 : ((S : Int) / 2 ^ d) % 2 = 0 ∨ ((S : Int) / 2 ^ d) % 2 = 1 := by omega
  rw [← h]
  rcases h2 with h2 | h2 <;> rw [h2] <;> rfl
theorem full_all {n S : Nat} (hS : S < 2 ^ n) (h : ∀ a, a < n → S.testBit a = true) : S = 2 ^ n - 1 := Nat.eq_of_testBit_eq fun c => by
  rw [testBit_full]
  rcases Nat.lt_or_ge c n with hc | hc
  · rw [h c hc]; simp [hc]
  · rw [Nat.testBit_lt_two_pow (Nat.lt_of_lt_of_le hS (Nat.pow_le_pow_right (by decide) hc))]
    simp; omega
theorem cell_new1' (w : World) (x : Value) (t : TypeId) : (w.alloc (.cells #[x] t)).cell? ⟨w.heap.size, 0, none⟩ = some x := by simp
theorem clo_zero (xs : List Int) : clo xs 0 := fun b c h _ => by simp at h
theorem clo_full {s : Int} {xs : List Int} (hp : tourP s xs) : clo xs (2 ^ xs.length - 1) := fun b c h hc => by
  rw [testBit_full] at h ⊢
  have hb : b < xs.length := by simpa using h
  rcases Nat.lt_or_ge c xs.length with h1 | h1
  · simpa using h1
  · rw [wins_hi hp hb h1] at hc; cases hc
def partP (a : Nat) (x : Int) : Bool := x.toNat.testBit a
noncomputable def partI (s : Int) (xs : List Int) (a : Int) : Int := if (tourB s xs && inB a 0 (s - 1)) = true then findI (partP a.toNat) (nI (partsN xs (2 ^ xs.length - 1))) else -1
set_option maxHeartbeats 4000000 in
theorem parts_any (n : Nat) (sl : Value) (xs : List Int) (hp : tourP n xs) (w : World) (h : Rd w sl xs) :
    Calls Try.prog 80 #[.agg #[.int .i64 n, sl]] w fun e w' => ∃ v', e = .returned v' ∧ Own w' w.heap.size v' (nI (partsN xs (2 ^ xs.length - 1))) ∧ Below w.heap.size w w' := by
  have hs := hp.1
  have hsl := hp.2.1
  have HR := Lib.hid h
  have HP := Lib.hid hp
  have hn : xs.length = n := by omega
  have hn8 : 1 ≤ n ∧ n ≤ 8 := by omega
  have hp8 := pow_le hn8.2
  obtain ⟨F1, F2, F3⟩ := ordS_facts xs
  rw [hn] at F1 F2 F3
  have HF1 := Lib.hid F1
  have HF2 := Lib.hid F2
  have HF3 := Lib.hid F3
  have HOL := Lib.hid (show (ordS xs).length = n by rw [ordS_len, hn])
  have HRF := Lib.hid (fun a (ha : a < n) => reach_facts hp (a := a) (by omega))
  have HPM := Lib.hid (fun K x (hK : K < 2 ^ n) (hc : clo xs K) (hx : x < n) hnn hlow => part_more hp (K := K) (x := x) (by rw [hn]; exact hK) hc (by rw [hn]; exact hx) hnn hlow)
  have HPS := Lib.hid (fun S (hS : S < 2 ^ n) (hc : clo xs S) h0 => partsN_step hp (S := S) (by rw [hn]; exact hS) hc h0)
  have HN := Lib.hid hn
  clear h F1 F2 F3 hp
  rw [HN.out] at HRF HPM HPS
  clear hn hsl hs
  go_enter Try.func80, Try.ntmps80
  go_wp2_with fail
  have b0 := below_alloc1 w (.cells #[.int .i64 n, sl] 68)
  have x0 := TBox.new w n (sl) 68
  generalize w.alloc (.cells #[.int .i64 n, sl] 68) = w0 at *
  have HX0 := Lib.hid x0
  have HB0 := Lib.hid b0
  clear x0 b0
  have y0_0 := HX0.out.1
  have y1_0 := HX0.out.2
  go_wp2_with fail
  refine (byScore_any n sl xs HP.out w0 (HR.out.below HB0.out)).mono ?_
  rintro e w1 ⟨v1, rfl, ho1, hb1⟩
  obtain ⟨g, c, rfl, hbg, hc, hnc, hcell, -⟩ := ho1.at_ (n := n) HOL.out (by omega)
  unfold maxLen at hc
  have hg1 := (ho1.lt g rfl).2
  have HCC := Lib.hid hcell
  have HB1 := Lib.hid (Below.then HB0.out hb1)
  have HX1 := Lib.hid (HX0.out.below hb1)
  clear ho1 hb1 hcell HB0 HX0 y0_0 y1_0
  go_wp2
  go_loopw [3, 4, 6] (fun v k i wr => ∃ (t K : Nat) (L : List Nat), t ≤ n ∧ i = .int .i64 ((t : Int) - 1) ∧ k = .int .i64 K ∧ K < 2 ^ n ∧ Hid (clo xs K) ∧ Hid (∀ j, t ≤ j → j < n → ∀ a : Nat, (ordS xs).getD j 0 = (a : Int) → K.testBit a = true) ∧ Hid (L.reverse = partsN xs K) ∧ L.length + t ≤ n ∧ Hid (Own wr w1.heap.size v (nI L)) ∧ Hid (Below w1.heap.size w1 wr)) (fun _ _ i _ => ((intOf i) + 1).toNat)
  case atStart => exact ⟨n, 0, [], Nat.le_refl _, rfl, rfl, Nat.two_pow_pos n, clo_zero xs, fun j h1 h2 => absurd h2 (by omega), by rw [partsN_zero]; rfl, by simp, Own.nil_ _ _, Below.refl _ _⟩
  case round =>
    obtain ⟨wo, rfl⟩ : ∃ x, x = wr := ⟨_, rfl⟩
    obtain ⟨t, K, L, ht, rfl, rfl, hK, HC, HKN, HL, hLl, HO, HB⟩ := hrel
    by_cases ht0 : 0 < t
    · obtain ⟨u, rfl⟩ : ∃ u, t = u + 1 := ⟨t - 1, by omega⟩
      have htu : ((u + 1 : Nat) : Int) - 1 = u := by omega
      rw [htu]
      have hun : u < n := by omega
      obtain ⟨x, hx, hxe⟩ := HF1.out u hun
      have hcx := (HB.out.cell (p := ⟨g, u, none⟩) hg1).trans (HCC.out u hun)
      rw [hxe] at hcx
      have HXE := Lib.hid hxe
      have HXo := Lib.hid (HX1.out.below HB.out)
      have HBo := Lib.hid (Below.then HB1.out HB.out)
      have hRx := (HRF.out x hx).2.2.2
      have hR1 := (HRF.out x hx).1
      have hRc := Lib.hid (HRF.out x hx).2.1
      have k1 := quiet_below (w := wo) (fun W hW => reach_any n sl xs x W ((HR.out.below HBo.out).below hW) HP.out (by rw [HN.out]; exact hx))
      have d1 := cell_regrown HXo.out.1
      have d2 := cell_regrown HXo.out.2
      have d3 := cell_regrown hcx
      have i1 : (0 : Int) ≤ u := by omega
      have i2 : (u : Int) < n := by omega
      clear hxe
      go_wp2_with fail
      clear hcx
      refine wp_region_below (by kernel_rfl) (by kernel_rfl) ?_
      repeat (go_big_quiet_step (first | (with_reducible exact k1 _ _)))
      refine wpQuiet_nil ?_
      intro wq hbq0
      have HBQ := Lib.hid hbq0
      have HBq := Lib.hid (Below.then HB.out hbq0)
      have HOq := Lib.hid (HO.out.below hbq0)
      have hcq := (HBq.out.cell (p := ⟨g, u, none⟩) hg1).trans (HCC.out u hun)
      rw [HXE.out] at hcq
      clear hbq0 d1 d2 d3 k1
      generalize hRe : reachN xs x = R at *
      have HRE := Lib.hid hRe
      clear hRe
      have hbt := bit_test0 K x
      have hand := i64_andNot_nat R K (by omega) (by omega)
      have hor := i64_or_nat K R (by omega) (by omega)
      have hszq := HBq.out.size
      rcases q : K.testBit x with _ | _
      · rw [q] at hbt
        have hlow : ∀ y, y < n → scK xs y < scK xs x → K.testBit y = true := fun y hy hyx => by
          obtain ⟨i', hi', hye⟩ := HF2.out y hy
          rcases Nat.lt_trichotomy i' u with h1 | h1 | h1
          · have := HF3.out i' u y x h1 hun hye HXE.out
            omega
          · subst h1
            have h2 := HXE.out
            rw [hye] at h2
            have : y = x := by omega
            subst this
            omega
          · exact HKN.out i' (by omega) hi' y hye
        have hpm := HPM.out K x hK HC.out hx q hlow
        rw [HRE.out] at hpm
        obtain ⟨m1, m2, m3⟩ := hpm
        have h0 : R ≠ 0 := by intro e; rw [e] at hR1; simp at hR1
        have hps := HPS.out R hRx hRc.out h0
        rw [m3, ← m1] at hps
        have HST : Hid ((L ++ [less R K]).reverse = partsN xs R) := by
          unfold Hid
          rw [List.reverse_append, HL.out, hps]
          rfl
        have HKN2 : Hid (∀ j, u ≤ j → j < n → ∀ a : Nat, (ordS xs).getD j 0 = (a : Int) → R.testBit a = true) := fun j hj hjn a hja => by
          by_cases e : j = u
          · subst e
            have h2 := HXE.out
            rw [hja] at h2
            have : a = x := by omega
            subst this
            exact hR1
          · have := HKN.out j (by omega) hjn a hja
            rw [← m2, Nat.testBit_or, this]; rfl
        rw [m2] at hor
        have HM := Lib.hid hps
        have ho := HOq.out
        have hln : (nI L).length = L.length := nI_len L
        clear m1 m2 m3 hps hlow
        generalize less R K = D at *
        go_wp2_with (at_builtin; refine wp_append1 wq rfl (.tmp 31) (.tmp 35) rfl w1.heap.size _ (nI L) (D : Int) (by simp [Act.eval]) ho (by simp [Act.eval]) (by omega) (by exact hszq) ?_; intro v' w7 hown1 hg1; have HO7 := Lib.hid hown1; have HB7 := Lib.hid (HBq.out.grown hg1 hszq (fun k hk => (ho.lt k hk).1)); clear hown1 hg1)
        go_roundw
        case rel => exact ⟨u, R, L ++ [D], by omega, rfl, rfl, hRx, hRc.out, HKN2.out, HST.out, by rw [List.length_append, List.length_singleton]; omega, by rw [nI_snoc]; exact HO7.out, HB7.out⟩
        case measure => simp [intOf] <;> omega
      · rw [q] at hbt
        have HKN2 : Hid (∀ j, u ≤ j → j < n → ∀ a : Nat, (ordS xs).getD j 0 = (a : Int) → K.testBit a = true) := fun j hj hjn a hja => by
          by_cases e : j = u
          · subst e
            have h2 := HXE.out
            rw [hja] at h2
            have : a = x := by omega
            subst this
            exact q
          · exact HKN.out j (by omega) hjn a hja
        go_wp2
        go_roundw
        case rel => exact ⟨u, K, L, by omega, rfl, rfl, hK, HC.out, HKN2.out, HL.out, by omega, HOq.out, HBq.out⟩
        case measure => simp [intOf] <;> omega
    · obtain rfl : t = 0 := by omega
      have hKf : K = 2 ^ n - 1 := full_all hK (fun a ha => by
        obtain ⟨i', hi', hye⟩ := HF2.out a ha
        exact HKN.out i' (by omega) hi' a hye)
      have hp2 := Nat.pow_le_pow_right (show 0 < 2 by decide) hn8.1
      have hps := HPS.out K hK HC.out (by omega)
      have hlL : 0 < L.length := by
        have := congrArg List.length HL.out
        rw [hps, List.length_reverse, List.length_cons] at this
        omega
      have HLR : Hid ((nI L).reverse = nI (partsN xs (2 ^ n - 1))) := by
        unfold Hid nI
        rw [← List.map_reverse, HL.out, hKf]
      obtain ⟨m, hm⟩ : ∃ m, L.length = m := ⟨_, rfl⟩
      obtain ⟨g2, c2, rfl, -, hc2, hmc2, -, -⟩ := HO.out.at_ (n := m) (by rw [nI_len]; exact hm) (by omega)
      have HOo := Lib.hid HO.out
      have HM : Hid ((nI L).length = m) := by unfold Hid; rw [nI_len]; exact hm
      have hszo := HB.out.size
      have hmn : m ≤ 8 := by omega
      have hm1 : 1 ≤ m := by omega
      clear hps hp2 hm
      go_wp2_with fail
      refine (reverse_any (nI L) m w1.heap.size g2 c2 wo HM.out hm1 (by omega) hszo hc2 hmc2 HOo.out).mono ?_
      rintro e w9 ⟨rfl, ho9, hb9⟩
      rw [HLR.out] at ho9
      have HO9 := Lib.hid (ho9.mono HB1.out.size)
      have HB9 := Lib.hid (Below.then HB1.out (HB.out.trans hb9))
      clear ho9 hb9
      go_wp2
      go_ret
      exact ⟨_, rfl, by rw [HN.out]; exact HO9.out, HB9.out⟩
set_option maxHeartbeats 1000000 in
theorem po1_any (S a ga : Nat) (W : World) (ca : W.cell? ⟨ga, 0, none⟩ = some (.int .i64 a)) (ha : a < 8) :
    Calls Try.prog 81 #[.int .i64 S, .pointer (some ⟨ga, 0, none⟩)] W fun e w' => e = .returned (.bool (partP a S)) ∧ Below W.heap.size W w' := by
  have hb := bit_test S a
  have hF : Hid (partP a S = S.testBit a) := by unfold Hid partP; rw [Int.toNat_natCast]
  go_enter Try.func81, Try.ntmps81
  go_wp2
  go_ret
  exact ⟨ret_bool (by rw [hF.out, ← hb]), Below.refl _ _⟩
theorem enters_po1 : Enters 81 := fun _ _ => by kernel_rfl
set_option maxHeartbeats 2000000 in
theorem implPartOf (s : Int) (sl : Value) (xs : List Int) (a : Int) (w : World) (h : Rd w sl xs) :
    Calls Try.prog 44 #[.agg #[.int .i64 s, sl], .int .i64 a] w fun e w' => e = .returned (.int .i64 (partI s xs a)) ∧ Below w.heap.size w w' := by
  have HR := Lib.hid h
  obtain ⟨A, c, rfl, -, -, -⟩ := h
  have b3 := (below_alloc1 w (.cells #[.int .i64 s, .slice A xs.length c] 68)).alloc (by simp) (.cells #[.int .i64 a] 3)
  have t0 := (TBox.new w s (.slice A xs.length c) 68).below (below_alloc1 _ (.cells #[.int .i64 a] 3))
  have c1 : ((w.alloc (.cells #[.int .i64 s, .slice A xs.length c] 68)).alloc (.cells #[.int .i64 a] 3)).cell? ⟨w.heap.size + 1, 0, none⟩ = some (.int .i64 a) := by
    have := cell_new1' (w.alloc (.cells #[.int .i64 s, .slice A xs.length c] 68)) (.int .i64 a) 3
    simpa only [World.size_alloc] using this
  have HB0 := Lib.hid b3
  have HT0 := Lib.hid t0
  have C1 := Lib.hid c1
  clear b3 t0 c1
  rcases q0 : tourB s xs with _ | _
  · have hno : partI s xs a = -1 := by simp [partI, q0]
    rw [hno]
    go_enter Try.func44, Try.ntmps44
    go_wp2_with fail
    generalize ((w.alloc (.cells #[.int .i64 s, .slice A xs.length c] 68)).alloc (.cells #[.int .i64 a] 3)) = w0 at *
    have y0 := HT0.out.1
    have y1 := HT0.out.2
    go_wp2_with fail
    refine (implTourOk s _ xs _ (HR.out.below HB0.out)).mono ?_
    rintro e w1 ⟨rfl, hb⟩
    rw [q0]
    have HB1 := Lib.hid (Below.then HB0.out hb)
    go_wp2
    go_ret
    exact ⟨rfl, HB1.out⟩
  have hp := tourB_true.1 q0
  have hs := hp.1
  have hsl := hp.2.1
  rcases q1 : inB a 0 (s - 1) with _ | _
  all_goals
    go_enter Try.func44, Try.ntmps44
    go_wp2_with fail
    generalize ((w.alloc (.cells #[.int .i64 s, .slice A xs.length c] 68)).alloc (.cells #[.int .i64 a] 3)) = w0 at *
    have y0 := HT0.out.1
    have y1 := HT0.out.2
    go_wp2_with fail
    refine (implTourOk s _ xs _ (HR.out.below HB0.out)).mono ?_
    rintro e w1 ⟨rfl, hb⟩
    rw [q0]
    have HB1 := Lib.hid (Below.then HB0.out hb)
    have HT1 := Lib.hid (HT0.out.below hb)
    have C11 := Lib.hid ((hb.cell (World.block_lt_of_cell? _ _ C1.out)).trans C1.out)
    clear y0 y1 hb
    have y0 := HT1.out.1
    have y1 := HT1.out.2
    have ca := C11.out
    go_wp2_with fail
    refine (has_any s _ a _ (by omega)).mono ?_
    rintro e w2 ⟨rfl, hb2⟩
    rw [q1]
    have HB2 := Lib.hid (Below.then HB1.out hb2)
    have HT2 := Lib.hid (HT1.out.below hb2)
    have C12 := Lib.hid ((hb2.cell (World.block_lt_of_cell? _ _ C11.out)).trans C11.out)
    clear y0 y1 ca hb2 HB0 HB1 HT0 HT1 C1 C11
  · have hno : Hid (partI s xs a = -1) := by unfold Hid; simp [partI, q1]
    go_wp2
    go_ret
    exact ⟨ret_int hno.out.symm, HB2.out⟩
  · have ha := inB_true.1 q1
    obtain ⟨i, rfl⟩ := Int.eq_ofNat_of_zero_le ha.1
    have hO : Hid (partI s xs i = findI (partP i) (nI (partsN xs (2 ^ xs.length - 1)))) := by unfold Hid partI; rw [q0, q1, Int.toNat_natCast]; rfl
    obtain ⟨n, rfl⟩ := Int.eq_ofNat_of_zero_le (show 0 ≤ s by omega)
    have HP := Lib.hid hp
    have hi8 : i < 8 := by omega
    have y0 := HT2.out.1
    have y1 := HT2.out.2
    clear q0 q1 hp
    go_wp2_with fail
    refine (parts_any n _ xs HP.out w2 (HR.out.below HB2.out)).mono ?_
    rintro e w3 ⟨v3, rfl, ho3, hb3⟩
    have C13 := Lib.hid ((hb3.cell (World.block_lt_of_cell? _ _ C12.out)).trans C12.out)
    have HO3 := Lib.hid ho3
    have HB3 := Lib.hid (Below.then HB2.out hb3)
    clear ho3 hb3 y0 y1
    go_wp2_with fail
    refine (indexFunc_any 81 #[.pointer (some ⟨w.heap.size + 1, 0, none⟩)] enters_po1 v3 (nI (partsN xs (2 ^ xs.length - 1))) (partP i) w3 HO3.out.rd (fun x hx W hW => by
      unfold nI at hx
      rw [List.mem_map] at hx
      obtain ⟨S, -, rfl⟩ := hx
      exact po1_any S i _ W ((hW.cell (World.block_lt_of_cell? _ _ C13.out)).trans C13.out) hi8)).mono ?_
    rintro e w4 ⟨rfl, hb4⟩
    have HB4 := Lib.hid (Below.then HB3.out hb4)
    clear hb4
    go_wp2
    go_ret
    exact ⟨ret_int hO.out.symm, HB4.out⟩
end Go.Proofs.Ytkcffjojklmbpaa
