/- Texts put together: SymC. -/
import Derived.Test.YtcmpioalnpmpmaaMPowers06
import Derived.Deep.DeepCutAuto
namespace Go.Proofs.Ytcmpioalnpmpmaa
open Go.RowKit Go.Sort
set_option maxRecDepth 100000
/-- what symMerge does, for ranges of at most d elements -/
def SymOk (F : FuncId) (caps : Array Value) (K : Int → Int) (A : Int → Prop) (n base g c : Nat) (w0 : World) (d : Nat) : Prop :=
  ∀ (P X Y S : List Int) (a m b : Nat) (w : World), P.length = a → a + X.length = m → m + Y.length = b → a < m → m < b → b ≤ a + d → b ≤ n → (P ++ X ++ Y ++ S).length = n → Below base w0 w → Own w base (.slice (some ⟨g, 0, none⟩) n c) (P ++ X ++ Y ++ S) →
    (∀ x ∈ X, A x) → (∀ y ∈ Y, A y) → X.Pairwise (LtK K) → Y.Pairwise (LtK K) → (∀ x ∈ X, ∀ y ∈ Y, x < y) →
    Calls Try.prog 155 #[.slice (some ⟨g, 0, none⟩) n c, .int .i64 a, .int .i64 m, .int .i64 b, .func (.func F) #[] caps] w fun e w' => e = .returned (.tuple #[]) ∧ ∃ M, M.Perm (X ++ Y) ∧ M.Pairwise (LtK K) ∧ Own w' base (.slice (some ⟨g, 0, none⟩) n c) (P ++ M ++ S) ∧ Below base w w'
set_option maxHeartbeats 16000000 in
theorem symC_any (F : FuncId) (caps : Array Value) (hE : Enters F) (cf : Int → Int → Int) (K : Int → Int) (A : Int → Prop) (P X Y S : List Int) (a m b n base g c d : Nat) (w0 w : World) (hP : P.length = a) (hX : a + X.length = m) (hY : m + Y.length = b) (ham : a + 1 < m) (hmb : m + 1 < b) (hd : b ≤ a + (d + 1)) (hn : n ≤ 1000) (hln : b ≤ n) (hl : (P ++ X ++ Y ++ S).length = n) (hbase : base ≤ w0.heap.size) (hb0 : Below base w0 w)
    (h : Own w base (.slice (some ⟨g, 0, none⟩) n c) (P ++ X ++ Y ++ S))
    (hAX : ∀ x ∈ X, A x) (hAY : ∀ y ∈ Y, A y) (hsX : X.Pairwise (LtK K)) (hsY : Y.Pairwise (LtK K)) (hx : ∀ x ∈ X, ∀ y ∈ Y, x < y) (hK : ∀ x y, A x → A y → (cf x y < 0 ↔ K x < K y))
    (hf : ∀ x y, A x → A y → ∀ w', Below base w0 w' → Calls Try.prog F (#[.int .i64 x, .int .i64 y] ++ caps) w' fun e w'' => e = .returned (.int .i64 (cf x y)) ∧ Below w'.heap.size w' w'')
    (ih : SymOk F caps K A n base g c w0 d) :
    Calls Try.prog 155 #[.slice (some ⟨g, 0, none⟩) n c, .int .i64 a, .int .i64 m, .int .i64 b, .func (.func F) #[] caps] w fun e w' => e = .returned (.tuple #[]) ∧ ∃ M, M.Perm (X ++ Y) ∧ M.Pairwise (LtK K) ∧ Own w' base (.slice (some ⟨g, 0, none⟩) n c) (P ++ M ++ S) ∧ Below base w w' := by
  have hE' : ∀ (args : Array Value) (W : World), (callFunc F args).run Try.prog W = .ok (.enter F args) W := hE
  have HF := Lib.hid hf
  have HK := Lib.hid hK
  have HAX := Lib.hid hAX
  have HAY := Lib.hid hAY
  have HSX := Lib.hid hsX
  have HSY := Lib.hid hsY
  have HXY := Lib.hid hx
  have HO0 := Lib.hid h
  have HP := Lib.hid hP
  have HX := Lib.hid hX
  have HY := Lib.hid hY
  have HLn := Lib.hid hl
  have HB0 := Lib.hid hb0
  have IH := Lib.hid ih
  have hbw : base ≤ w.heap.size := by have := hb0.size; omega
  clear hf hK hAX hAY hsX hsY hx h hP hX hY hl hb0 ih
  have y0 : (((m : Int) - (a : Int)) == 1) = false := by simp; omega
  have y2 : (((b : Int) - (m : Int)) == 1) = false := by simp; omega
  have y1 : IntKind.i64.wrap ((m : Int) - (a : Int)) = (m : Int) - (a : Int) := IntWalk.i64_in _ (by omega)
  have y3 : IntKind.i64.wrap ((b : Int) - (m : Int)) = (b : Int) - (m : Int) := IntWalk.i64_in _ (by omega)
  obtain ⟨mid, hmid⟩ : ∃ mid : Nat, mid = (a + b) / 2 := ⟨_, rfl⟩
  obtain ⟨nn, hnn⟩ : ∃ nn : Nat, nn = mid + m := ⟨_, rfl⟩
  obtain ⟨pp, hpp⟩ : ∃ pp : Nat, pp + 1 = nn := ⟨nn - 1, by omega⟩
  have e0 : IntKind.i64.wrap ((a : Int) + (b : Int)) = (a : Int) + (b : Int) := IntWalk.i64_in _ (by omega)
  have e1 : ((a : Int) + (b : Int)) / 2 = (mid : Int) := by omega
  have e2 : IntKind.i64.wrap ((mid : Int) + (m : Int)) = (nn : Int) := by rw [IntWalk.i64_in _ (by omega)]; omega
  have e3 : IntKind.i64.wrap ((nn : Int) - 1) = (pp : Int) := by rw [IntWalk.i64_in _ (by omega)]; omega
  have l1 : 2 * mid ≤ a + b := by omega
  have l2 : a + b ≤ 2 * mid + 1 := by omega
  have l3 : nn ≤ mid + m := by omega
  have l4 : mid + m ≤ nn := by omega
  have l5 : pp + 1 ≤ nn := by omega
  have l6 : nn ≤ pp + 1 := by omega
  clear hmid hnn hpp
  obtain ⟨L, HL⟩ : ∃ L, Hid (L = P ++ X ++ Y ++ S) := ⟨_, Lib.hid rfl⟩
  rw [← HL.out] at HO0 HLn
  obtain ⟨lo, HLOI⟩ : ∃ lo : Nat → Nat → Nat → Prop, Hid (∀ s0 r0 k, lo s0 r0 k ↔ (s0 ≤ k → k < r0 → ¬ K (Y.getD (pp - k - m) 0) < K (X.getD (k - a) 0))) := ⟨_, Lib.hid fun s0 r0 k => Iff.rfl⟩
  obtain ⟨hi, HHII⟩ : ∃ hi : Nat → Nat → Nat → Prop, Hid (∀ s0 r0 k, hi s0 r0 k ↔ (s0 ≤ k → k < r0 → K (Y.getD (pp - k - m) 0) < K (X.getD (k - a) 0))) := ⟨_, Lib.hid fun s0 r0 k => Iff.rfl⟩
  have key : ∃ s0 r0 : Nat, a ≤ s0 ∧ s0 ≤ r0 ∧ r0 ≤ m ∧ pp < b + s0 ∧ r0 + m ≤ pp + 1 ∧ Hid (s0 = a ∨ nn = s0 + b) ∧ Hid (r0 = m ∨ nn = r0 + m) ∧ Hid ((mid < m ∧ IntKind.i64.wrap ((nn : Int) - (b : Int)) = (s0 : Int) ∧ mid = r0) ∨ (m ≤ mid ∧ s0 = a ∧ r0 = m)) := by
    rcases Nat.lt_or_ge mid m with hlt | hge
    · exact ⟨nn - b, mid, by omega, by omega, by omega, by omega, by omega, Lib.hid (by omega), Lib.hid (by omega), Lib.hid (.inl ⟨hlt, by rw [IntWalk.i64_in _ (by omega)]; omega, rfl⟩)⟩
    · exact ⟨a, m, by omega, by omega, by omega, by omega, by omega, Lib.hid (by omega), Lib.hid (by omega), Lib.hid (.inr ⟨hge, rfl, rfl⟩)⟩
  obtain ⟨s0, r0, k1, k2, k3, k4, k5, HS0, HR0, HC⟩ := key
  go_enter Try.func155, Try.ntmps155
  go_upto_if 140 with (fail)
  go_cut [20, 21] (fun t20 t21 wx => t20 = .int .i64 s0 ∧ t21 = .int .i64 r0 ∧ Hid (wx = w))
  case first =>
    as_aux_lemma =>
      rcases HC.out with hc | hc
      · have c1 := hc.1
        have c2 := hc.2.1
        have H3 := Lib.hid hc.2.2
        clear hc
        have dd : decide ((mid : Int) < (m : Int)) = true := by simp; omega
        go_wp2_with fail
        go_meet
        case rel => exact ⟨rfl, by rw [H3.out], Lib.hid rfl⟩
      · have c1 := hc.1
        have H2 := Lib.hid hc.2.1
        have H3 := Lib.hid hc.2.2
        clear hc
        have dd : decide ((mid : Int) < (m : Int)) = false := by simp; omega
        go_wp2_with fail
        go_meet
        case rel => exact ⟨by rw [H2.out], by rw [H3.out], Lib.hid rfl⟩
  case rest =>
    as_aux_lemma =>
      obtain ⟨rfl, rfl, HW⟩ := hcut
      go_wp2_with fail
      go_loopw [20, 21] (fun i j wr => BinR s0 r0 (lo s0 r0) (hi s0 r0) i j ∧ Hid (Own wr base (.slice (some ⟨g, 0, none⟩) n c) L) ∧ Hid (Below base w wr)) (fun i j _ => (intOf j).toNat - (intOf i).toNat)
      case atStart =>
        exact ⟨.mk' s0 r0 (by omega) (by omega) (by omega) rfl rfl (fun k h1 => (HLOI.out s0 r0 k).2 (by omega)) (fun k h1 => (HHII.out s0 r0 k).2 (by omega)), Lib.hid (by rw [HW.out]; exact HO0.out), Lib.hid (by rw [HW.out]; exact (Below.refl _ _).mono hbw)⟩
      case round =>
        obtain ⟨wo, rfl⟩ : ∃ x, x = wr := ⟨_, rfl⟩
        obtain ⟨⟨i, j, h1, h2, h3, rfl, rfl, HLO', HHI'⟩, HO, HB⟩ := hrel
        have HLO := Lib.hid HLO'
        have HHI := Lib.hid HHI'
        clear HLO' HHI'
        by_cases hlt : i < j
        · as_aux_lemma =>
            have hP := HP.out
            have hX := HX.out
            have hY := HY.out
            obtain ⟨hxc, hfz⟩ := HO.out.at1 HLn.out (by omega)
            obtain ⟨hh, hhd⟩ : ∃ hh : Nat, hh = (i + j) / 2 := ⟨_, rfl⟩
            obtain ⟨q, hq⟩ : ∃ q : Nat, q = pp - hh := ⟨_, rfl⟩
            have g1 : i ≤ hh := by omega
            have g2 : hh < j := by omega
            have g3 : hh < n := by omega
            have g4 : q < n := by omega
            have E0 := at_row P X (Y ++ S) (hh - a) (by omega)
            rw [hP, show a + (hh - a) = hh by omega, ← List.append_assoc, ← HL.out] at E0
            have E1 := at_row (P ++ X) Y S (q - m) (by omega)
            rw [show (P ++ X).length + (q - m) = q by simp; omega, ← HL.out] at E1
            have z0 := hxc hh (by omega)
            have z1 := hxc q (by omega)
            rw [E0] at z0
            rw [E1] at z1
            have hAx : A (X.getD (hh - a) 0) := HAX.out _ (getD_memI (by omega))
            have hAy : A (Y.getD (q - m) 0) := HAY.out _ (getD_memI (by omega))
            have HKy := Lib.hid (HK.out _ _ hAy hAx)
            have HXM := Lib.hid (fun k (h1 : k ≤ hh - a) => sorted_K HSX.out (i := k) (j := hh - a) h1 (by omega))
            have HXN := Lib.hid (fun k (h1 : hh - a ≤ k) (h2 : k < X.length) => sorted_K HSX.out (i := hh - a) (j := k) h1 h2)
            have HYM := Lib.hid (fun k (h1 : k ≤ q - m) => sorted_K HSY.out (i := k) (j := q - m) h1 (by omega))
            have HYN := Lib.hid (fun k (h1 : q - m ≤ k) (h2 : k < Y.length) => sorted_K HSY.out (i := q - m) (j := k) h1 h2)
            have k1 := quiet_below (w := wo) (fun W hW => HF.out _ _ hAy hAx W ((HB0.out.trans HB.out).trans (hW.mono (by have := HB.out.size; omega))))
            have HQ : Hid (q = pp - hh) := Lib.hid hq
            have u0 : IntKind.i64.wrap ((i : Int) + (j : Int)) = (i : Int) + (j : Int) := IntWalk.i64_in _ (by omega)
            have u1 : ((i : Int) + (j : Int)) / 2 = (hh : Int) := by omega
            have u2 : IntKind.i64.wrap ((pp : Int) - (hh : Int)) = (q : Int) := by rw [IntWalk.i64_in _ (by omega)]; omega
            have LX : Hid (a + X.length = m) := HX
            clear hxc hfz E0 E1 hAx hAy hP hX hY hhd hq
            generalize X.getD (hh - a) 0 = x at *
            generalize Y.getD (q - m) 0 = y at *
            have hk1 := k1 0 #[]
            rcases Int.lt_or_le (cf y x) 0 with hr | hr
            · as_aux_lemma =>
                have HLT : Hid (K y < K x) := Lib.hid (HKy.out.1 hr)
                have hr2 : decide (cf y x < 0) = true := decide_eq_true hr
                generalize cf y x = r at *
                go_wp2_with fail
                have c1 := cell_regrown z1
                have c0 := cell_regrown z0
                clear z0 z1
                refine wp_region_below (by kernel_rfl) (by kernel_rfl) ?_
                repeat (go_big_quiet_step (first | (with_reducible exact k1 _ _)))
                refine wpQuiet_nil ?_
                intro wq hbq0
                have HBQ := Lib.hid hbq0
                clear hbq0 c0 c1 k1 hk1
                go_wp2
                all_goals
                  go_roundw
                  case rel => exact ⟨.mk' i hh (by omega) (by omega) (by omega) rfl rfl HLO.out (fun k q1 => (HHII.out s0 r0 k).2 (fun q2 q3 => by
                    have e1 := HXN.out (k - a) (by omega) (by have := HX.out; omega)
                    have e2 := HYM.out (pp - k - m) (by have := HQ.out; omega)
                    have e3 := HLT.out
                    omega)), Lib.hid (HO.out.below HBQ.out), Lib.hid (HB.out.trans (HBQ.out.mono (Nat.le_trans hbw HB.out.size)))⟩
                  case measure => simp [intOf]; omega
            · as_aux_lemma =>
                have HLT : Hid (¬ K y < K x) := Lib.hid (fun h => absurd (HKy.out.2 h) (by omega))
                have hr2 : decide (cf y x < 0) = false := decide_eq_false (by omega)
                generalize cf y x = r at *
                go_wp2_with fail
                have c1 := cell_regrown z1
                have c0 := cell_regrown z0
                clear z0 z1
                refine wp_region_below (by kernel_rfl) (by kernel_rfl) ?_
                repeat (go_big_quiet_step (first | (with_reducible exact k1 _ _)))
                refine wpQuiet_nil ?_
                intro wq hbq0
                have HBQ := Lib.hid hbq0
                clear hbq0 c0 c1 k1 hk1
                go_wp2
                all_goals
                  go_roundw
                  case rel => exact ⟨.mk' (hh + 1) j (by omega) (by omega) (by omega) (by omega) rfl (fun k q1 => (HLOI.out s0 r0 k).2 (fun q2 q3 => by
                    have e1 := HXM.out (k - a) (by omega)
                    have e2 := HYN.out (pp - k - m) (by have := HQ.out; omega) (by have := HY.out; omega)
                    have e3 := HLT.out
                    omega)) HHI.out, Lib.hid (HO.out.below HBQ.out), Lib.hid (HB.out.trans (HBQ.out.mono (Nat.le_trans hbw HB.out.size)))⟩
                  case measure => simp [intOf]; omega
        · as_aux_lemma =>
            obtain rfl : i = j := by omega
            obtain ⟨e, he⟩ : ∃ e : Nat, e = nn - i := ⟨_, rfl⟩
            have x1 : m ≤ e := by omega
            have x2 : e ≤ b := by omega
            have x3 : e + i ≤ nn := by omega
            have x4 : nn ≤ e + i := by omega
            have u3 : IntKind.i64.wrap ((nn : Int) - (i : Int)) = (e : Int) := by rw [IntWalk.i64_in _ (by omega)]; omega
            clear he
            have HCR0 : Hid (∀ x ∈ X.take (i - a) ++ Y.take (e - m), ∀ y ∈ X.drop (i - a) ++ Y.drop (e - m), LtK K x y) := Lib.hid (by
              have hX := HX.out
              have hY := HY.out
              have c0 := HS0.out
              have c1 := HR0.out
              refine split_cross HSX.out HSY.out HXY.out (fun q1 q2 => ?_) (fun q1 q2 => ?_) (by omega) (by omega)
              · have := (HLOI.out s0 r0 (i - 1)).1 (HLO.out (i - 1) (by omega)) (by omega) (by omega)
                rw [show pp - (i - 1) - m = e - m by omega, show i - 1 - a = i - a - 1 by omega] at this
                omega
              · have := (HHII.out s0 r0 i).1 (HHI.out i (by omega)) (by omega) (by omega)
                rw [show pp - i - m = e - m - 1 by omega] at this
                omega)
            obtain ⟨X1, X2, HX12⟩ : ∃ X1 X2, Hid (X1 = X.take (i - a) ∧ X2 = X.drop (i - a)) := ⟨_, _, Lib.hid ⟨rfl, rfl⟩⟩
            obtain ⟨Y1, Y2, HY12⟩ : ∃ Y1 Y2, Hid (Y1 = Y.take (e - m) ∧ Y2 = Y.drop (e - m)) := ⟨_, _, Lib.hid ⟨rfl, rfl⟩⟩
            have HLs : Hid (a + X1.length = i ∧ i + X2.length = m ∧ m + Y1.length = e ∧ e + Y2.length = b) := Lib.hid (by
              have hX := HX.out
              have hY := HY.out
              rw [HX12.out.1, HX12.out.2, HY12.out.1, HY12.out.2, List.length_take, List.length_drop, List.length_take, List.length_drop]
              omega)
            have HXe : Hid (X1 ++ X2 = X) := Lib.hid (by rw [HX12.out.1, HX12.out.2, List.take_append_drop])
            have HYe : Hid (Y1 ++ Y2 = Y) := Lib.hid (by rw [HY12.out.1, HY12.out.2, List.take_append_drop])
            have HCR : Hid (∀ x ∈ X1 ++ Y1, ∀ y ∈ X2 ++ Y2, LtK K x y) := Lib.hid (by rw [HX12.out.1, HX12.out.2, HY12.out.1, HY12.out.2]; exact HCR0.out)
            have HL1 : Hid (L = P ++ X1 ++ X2 ++ (Y1 ++ Y2) ++ S) := Lib.hid (by rw [HL.out, HYe.out, ← HXe.out]; simp [List.append_assoc])
            have HPX1 : Hid (X1.Pairwise (LtK K) ∧ X2.Pairwise (LtK K) ∧ Y1.Pairwise (LtK K) ∧ Y2.Pairwise (LtK K)) := Lib.hid (by
              rw [HX12.out.1, HX12.out.2, HY12.out.1, HY12.out.2]
              exact ⟨pw_take HSX.out _, pw_drop HSX.out _, pw_take HSY.out _, pw_drop HSY.out _⟩)
            clear HCR0 HX12 HY12 HLO HHI HLOI HHII
            obtain ⟨b1, Hb1⟩ : ∃ b1 : Bool, Hid (b1 = (decide (i < m) && decide (m < e))) := ⟨_, Lib.hid rfl⟩
            obtain ⟨b2, Hb2⟩ : ∃ b2 : Bool, Hid (b2 = (decide (a < i) && decide (i < mid))) := ⟨_, Lib.hid rfl⟩
            obtain ⟨b3, Hb3⟩ : ∃ b3 : Bool, Hid (b3 = (decide (mid < e) && decide (e < b))) := ⟨_, Lib.hid rfl⟩
            go_upto_region 39 with (fail)
            go_cut [185] (fun t wx => t = .bool b1 ∧ Hid (wx = wo))
            case first =>
              as_aux_lemma =>
                by_cases qa : i < m
                · have dA : decide ((i : Int) < (m : Int)) = true := by simp; omega
                  by_cases qb : m < e
                  · have dB : decide ((m : Int) < (e : Int)) = true := by simp; omega
                    have HBv : Hid (b1 = true) := Lib.hid (by rw [Hb1.out]; simp; omega)
                    go_wp2_with fail
                    go_meet
                    case rel => exact ⟨by rw [HBv.out], Lib.hid rfl⟩
                  · have dB : decide ((m : Int) < (e : Int)) = false := by simp; omega
                    have HBv : Hid (b1 = false) := Lib.hid (by rw [Hb1.out]; simp; omega)
                    go_wp2_with fail
                    go_meet
                    case rel => exact ⟨by rw [HBv.out], Lib.hid rfl⟩
                · have dA : decide ((i : Int) < (m : Int)) = false := by simp; omega
                  have HBv : Hid (b1 = false) := Lib.hid (by rw [Hb1.out]; simp; omega)
                  go_wp2_with fail
                  go_meet
                  case rel => exact ⟨by rw [HBv.out], Lib.hid rfl⟩
            case rest =>
              as_aux_lemma =>
                obtain ⟨rfl, HW1⟩ := hcut
                have HOa : Hid (Own wc base (.slice (some ⟨g, 0, none⟩) n c) (P ++ X1 ++ X2 ++ (Y1 ++ Y2) ++ S)) := Lib.hid (by rw [HW1.out, ← HL1.out]; exact HO.out)
                have HBa : Hid (Below base w wc) := Lib.hid (by rw [HW1.out]; exact HB.out)
                clear HO HB HW1
                go_upto_if 185 with (fail)
                go_cut [24] (fun t wx => t = .int .i64 e ∧ Hid (Own wx base (.slice (some ⟨g, 0, none⟩) n c) (P ++ X1 ++ Y1 ++ X2 ++ Y2 ++ S)) ∧ Hid (Below base w wx))
                case first =>
                  as_aux_lemma =>
                    rcases b1 with _ | _
                    · go_wp2_with fail
                      go_meet
                      case rel => exact ⟨rfl, Lib.hid (by
                        have h1 := Hb1.out
                        have h2 := HLs.out
                        have h3 := HOa.out
                        have h4 : X2 = [] ∨ Y1 = [] := by
                          rw [← List.length_eq_zero_iff, ← List.length_eq_zero_iff]
                          simp at h1
                          omega
                        rcases h4 with h4 | h4 <;> subst h4 <;> simpa [List.append_assoc] using h3), HBa⟩
                    · have HR := Lib.hid (rotate_any (.func (.func F) #[] caps) (P ++ X1) X2 Y1 (Y2 ++ S) i m e n base g c wc (by have := HLs.out; have := HP.out; simp; omega) (by have := HLs.out; omega) (by have := HLs.out; omega) (by have := Hb1.out; simp at this; omega) (by have := Hb1.out; simp at this; omega) hn (by omega) (by rw [← HLn.out, HL1.out]; simp [List.append_assoc]) (by have := HBa.out.size; omega) (by simpa [List.append_assoc] using HOa.out))
                      go_wp2_with fail
                      refine HR.out.mono ?_
                      rintro e' w9 ⟨rfl, ho9, hb9⟩
                      have HO9 := Lib.hid ho9
                      have HB9 := Lib.hid (HBa.out.trans hb9)
                      clear ho9 hb9
                      go_wp2_with fail
                      go_meet
                      case rel => exact ⟨rfl, Lib.hid (by simpa [List.append_assoc] using HO9.out), HB9⟩
                case rest =>
                  as_aux_lemma =>
                    obtain ⟨rfl, HOb, HBb⟩ := hcut
                    obtain ⟨wb, hwb⟩ : ∃ x, x = wc := ⟨_, rfl⟩
                    subst hwb
                    go_upto_region 41 with (fail)
                    go_cut [199] (fun t wx => t = .bool b2 ∧ Hid (wx = wb))
                    case first =>
                      as_aux_lemma =>
                        by_cases qa : a < i
                        · have dA : decide ((a : Int) < (i : Int)) = true := by simp; omega
                          by_cases qb : i < mid
                          · have dB : decide ((i : Int) < (mid : Int)) = true := by simp; omega
                            have HBv : Hid (b2 = true) := Lib.hid (by rw [Hb2.out]; simp; omega)
                            go_wp2_with fail
                            go_meet
                            case rel => exact ⟨by rw [HBv.out], Lib.hid rfl⟩
                          · have dB : decide ((i : Int) < (mid : Int)) = false := by simp; omega
                            have HBv : Hid (b2 = false) := Lib.hid (by rw [Hb2.out]; simp; omega)
                            go_wp2_with fail
                            go_meet
                            case rel => exact ⟨by rw [HBv.out], Lib.hid rfl⟩
                        · have dA : decide ((a : Int) < (i : Int)) = false := by simp; omega
                          have HBv : Hid (b2 = false) := Lib.hid (by rw [Hb2.out]; simp; omega)
                          go_wp2_with fail
                          go_meet
                          case rel => exact ⟨by rw [HBv.out], Lib.hid rfl⟩
                    case rest =>
                      as_aux_lemma =>
                        obtain ⟨rfl, HW2⟩ := hcut
                        have HOc : Hid (Own wc base (.slice (some ⟨g, 0, none⟩) n c) (P ++ X1 ++ Y1 ++ X2 ++ Y2 ++ S)) := Lib.hid (by rw [HW2.out]; exact HOb.out)
                        have HBc : Hid (Below base w wc) := Lib.hid (by rw [HW2.out]; exact HBb.out)
                        clear HOb HBb HW2
                        go_upto_if 199 with (fail)
                        go_cut [24] (fun t wx => t = .int .i64 e ∧ ∃ M1 : List Int, Hid (M1.Perm (X1 ++ Y1) ∧ M1.Pairwise (LtK K)) ∧ Hid (Own wx base (.slice (some ⟨g, 0, none⟩) n c) (P ++ M1 ++ X2 ++ Y2 ++ S)) ∧ Hid (Below base w wx))
                        case first =>
                          as_aux_lemma =>
                            rcases b2 with _ | _
                            · go_wp2_with fail
                              go_meet
                              case rel => exact ⟨rfl, X1 ++ Y1, Lib.hid ⟨.refl _, by
                                have h1 := Hb2.out
                                have h2 := HLs.out
                                have h4 : X1 = [] ∨ Y1 = [] := by
                                  rw [← List.length_eq_zero_iff, ← List.length_eq_zero_iff]
                                  simp at h1
                                  omega
                                rcases h4 with h4 | h4
                                · rw [h4]; exact HPX1.out.2.2.1
                                · rw [h4, List.append_nil]; exact HPX1.out.1⟩, Lib.hid (by have := HOc.out; simpa [List.append_assoc] using this), HBc⟩
                            · have HR := Lib.hid (IH.out P X1 Y1 (X2 ++ Y2 ++ S) a i mid wc HP.out (by have := HLs.out; omega) (by have := HLs.out; omega) (by have := Hb2.out; simp at this; omega) (by have := Hb2.out; simp at this; omega) (by omega) (by omega) (by rw [← HLn.out, HL1.out]; simp [List.append_assoc, Nat.add_comm, Nat.add_left_comm]) (HB0.out.trans HBc.out) (by have := HOc.out; simpa [List.append_assoc] using this) (fun x hx => HAX.out x (by rw [← HXe.out]; exact List.mem_append_left _ hx)) (fun y hy => HAY.out y (by rw [← HYe.out]; exact List.mem_append_left _ hy)) HPX1.out.1 HPX1.out.2.2.1 (fun x hx y hy => HXY.out x (by rw [← HXe.out]; exact List.mem_append_left _ hx) y (by rw [← HYe.out]; exact List.mem_append_left _ hy)))
                              go_wp2_with fail
                              refine HR.out.mono ?_
                              rintro e' w9 ⟨rfl, M1, hp9, hs9, ho9, hb9⟩
                              have HPS := Lib.hid (And.intro hp9 hs9)
                              have HO9 := Lib.hid ho9
                              have HB9 := Lib.hid (HBc.out.trans hb9)
                              clear ho9 hb9 hp9 hs9
                              go_wp2_with fail
                              go_meet
                              case rel => exact ⟨rfl, M1, HPS, Lib.hid (by have := HO9.out; simpa [List.append_assoc] using this), HB9⟩
                        case rest =>
                          as_aux_lemma =>
                            obtain ⟨rfl, M1, HM1, HOd, HBd⟩ := hcut
                            obtain ⟨wd, hwd⟩ : ∃ x, x = wc := ⟨_, rfl⟩
                            subst hwd
                            have HM1l : Hid ((P ++ M1).length = mid) := Lib.hid (by
                              have h1 := HM1.out.1.length_eq
                              have h2 := HLs.out
                              have h3 := HP.out
                              rw [List.length_append] at h1 ⊢
                              omega)
                            go_upto_region 43 with (fail)
                            go_cut [213] (fun t wx => t = .bool b3 ∧ Hid (wx = wd))
                            case first =>
                              as_aux_lemma =>
                                by_cases qa : mid < e
                                · have dA : decide ((mid : Int) < (e : Int)) = true := by simp; omega
                                  by_cases qb : e < b
                                  · have dB : decide ((e : Int) < (b : Int)) = true := by simp; omega
                                    have HBv : Hid (b3 = true) := Lib.hid (by rw [Hb3.out]; simp; omega)
                                    go_wp2_with fail
                                    go_meet
                                    case rel => exact ⟨by rw [HBv.out], Lib.hid rfl⟩
                                  · have dB : decide ((e : Int) < (b : Int)) = false := by simp; omega
                                    have HBv : Hid (b3 = false) := Lib.hid (by rw [Hb3.out]; simp; omega)
                                    go_wp2_with fail
                                    go_meet
                                    case rel => exact ⟨by rw [HBv.out], Lib.hid rfl⟩
                                · have dA : decide ((mid : Int) < (e : Int)) = false := by simp; omega
                                  have HBv : Hid (b3 = false) := Lib.hid (by rw [Hb3.out]; simp; omega)
                                  go_wp2_with fail
                                  go_meet
                                  case rel => exact ⟨by rw [HBv.out], Lib.hid rfl⟩
                            case rest =>
                              as_aux_lemma =>
                                obtain ⟨rfl, HW3⟩ := hcut
                                have HOe : Hid (Own wc base (.slice (some ⟨g, 0, none⟩) n c) (P ++ M1 ++ X2 ++ Y2 ++ S)) := Lib.hid (by rw [HW3.out]; exact HOd.out)
                                have HBe : Hid (Below base w wc) := Lib.hid (by rw [HW3.out]; exact HBd.out)
                                clear HOd HBd HW3
                                rcases b3 with _ | _
                                · have HJ := Lib.hid (merge_join (M2 := X2 ++ Y2) HM1.out.1 (.refl _) HM1.out.2 (by
                                    have h1 := Hb3.out
                                    have h2 := HLs.out
                                    have h4 : X2 = [] ∨ Y2 = [] := by
                                      rw [← List.length_eq_zero_iff, ← List.length_eq_zero_iff]
                                      simp at h1
                                      omega
                                    rcases h4 with h4 | h4
                                    · rw [h4]; exact HPX1.out.2.2.2
                                    · rw [h4, List.append_nil]; exact HPX1.out.2.1) HCR.out)
                                  go_wp2_with fail
                                  go_end0
                                  exact ⟨rfl, M1 ++ (X2 ++ Y2), by rw [← HXe.out, ← HYe.out]; exact HJ.out.1, HJ.out.2, by have := HOe.out; simpa [List.append_assoc] using this, HBe.out⟩
                                · have HR := Lib.hid (IH.out (P ++ M1) X2 Y2 S mid e b wc HM1l.out (by have := HLs.out; omega) (by have := HLs.out; omega) (by have := Hb3.out; simp at this; omega) (by have := Hb3.out; simp at this; omega) (by omega) hln (by
                                    have h0 := HLn.out
                                    have h1 := HM1l.out
                                    have h2 := HLs.out
                                    have h3 := HP.out
                                    rw [HL1.out] at h0
                                    simp only [List.length_append] at h0 h1 ⊢
                                    omega) (HB0.out.trans HBe.out) HOe.out (fun x hx => HAX.out x (by rw [← HXe.out]; exact List.mem_append_right _ hx)) (fun y hy => HAY.out y (by rw [← HYe.out]; exact List.mem_append_right _ hy)) HPX1.out.2.1 HPX1.out.2.2.2 (fun x hx y hy => HXY.out x (by rw [← HXe.out]; exact List.mem_append_right _ hx) y (by rw [← HYe.out]; exact List.mem_append_right _ hy)))
                                  go_wp2_with fail
                                  refine HR.out.mono ?_
                                  rintro e' w9 ⟨rfl, M2, hp9, hs9, ho9, hb9⟩
                                  have HJ := Lib.hid (merge_join HM1.out.1 hp9 HM1.out.2 hs9 HCR.out)
                                  have HO9 := Lib.hid ho9
                                  have HB9 := Lib.hid (HBe.out.trans hb9)
                                  clear ho9 hb9 hp9 hs9
                                  go_wp2_with fail
                                  go_end0
                                  exact ⟨rfl, M1 ++ M2, by rw [← HXe.out, ← HYe.out]; exact HJ.out.1, HJ.out.2, by have := HO9.out; simpa [List.append_assoc] using this, HB9.out⟩
end Go.Proofs.Ytcmpioalnpmpmaa

