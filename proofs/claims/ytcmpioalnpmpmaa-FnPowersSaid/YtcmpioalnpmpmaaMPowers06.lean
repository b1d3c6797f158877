/- Texts put together: SymB. -/
import Derived.Test.YtcmpioalnpmpmaaMPowers05
namespace Go.Proofs.Ytcmpioalnpmpmaa
open Go.RowKit Go.Sort
set_option maxRecDepth 100000
set_option maxHeartbeats 4000000 in
theorem symB_any (F : FuncId) (caps : Array Value) (hE : Enters F) (cf : Int → Int → Int) (K : Int → Int) (A : Int → Prop) (P X : List Int) (y : Int) (S : List Int) (a m b n base g c : Nat) (w0 w : World) (hP : P.length = a) (hX : a + X.length = m) (hma : a + 1 < m) (hb : b = m + 1) (hn : n ≤ 1000) (hln : b ≤ n) (hl : (P ++ X ++ [y] ++ S).length = n) (hbase : base ≤ w0.heap.size) (hb0 : Below base w0 w)
    (h : Own w base (.slice (some ⟨g, 0, none⟩) n c) (P ++ X ++ [y] ++ S))
    (hAy : A y) (hAX : ∀ x ∈ X, A x) (hs : X.Pairwise (LtK K)) (hx : ∀ x ∈ X, x < y) (hK : ∀ x y, A x → A y → (cf x y < 0 ↔ K x < K y))
    (hf : ∀ x y, A x → A y → ∀ w', Below base w0 w' → Calls Try.prog F (#[.int .i64 x, .int .i64 y] ++ caps) w' fun e w'' => e = .returned (.int .i64 (cf x y)) ∧ Below w'.heap.size w' w'') :
    Calls Try.prog 155 #[.slice (some ⟨g, 0, none⟩) n c, .int .i64 a, .int .i64 m, .int .i64 b, .func (.func F) #[] caps] w fun e w' => e = .returned (.tuple #[]) ∧ ∃ M, M.Perm (X ++ [y]) ∧ M.Pairwise (LtK K) ∧ Own w' base (.slice (some ⟨g, 0, none⟩) n c) (P ++ M ++ S) ∧ Below base w w' := by
  have hE' : ∀ (args : Array Value) (W : World), (callFunc F args).run Try.prog W = .ok (.enter F args) W := hE
  have HF := Lib.hid hf
  have HK := Lib.hid hK
  have HAX := Lib.hid hAX
  have HS := Lib.hid hs
  have HXY := Lib.hid hx
  have HO0 := Lib.hid h
  have HP := Lib.hid hP
  have HX := Lib.hid hX
  have HLn := Lib.hid hl
  have HB0 := Lib.hid hb0
  have hg := (h.lt g rfl)
  have hbw : base ≤ w.heap.size := by have := hb0.size; omega
  clear hf hK hAX hs hx h hP hX hl hb0
  have y0 : (((m : Int) - (a : Int)) == 1) = false := by simp; omega
  have y2 : (((b : Int) - (m : Int)) == 1) = true := by simp; omega
  have hmb : m < b := by omega
  have hbm : b ≤ m + 1 := by omega
  clear hb
  have y1 : IntKind.i64.wrap ((m : Int) - (a : Int)) = (m : Int) - (a : Int) := IntWalk.i64_in _ (by omega)
  have y3 : IntKind.i64.wrap ((b : Int) - (m : Int)) = (b : Int) - (m : Int) := IntWalk.i64_in _ (by omega)
  go_enter Try.func155, Try.ntmps155
  go_wp2
  obtain ⟨lo, HLOI⟩ : ∃ lo : Nat → Prop, Hid (∀ k, lo k ↔ (a ≤ k → k < m → ¬ K y < K (X.getD (k - a) 0))) := ⟨_, Lib.hid fun k => Iff.rfl⟩
  obtain ⟨hi, HHII⟩ : ∃ hi : Nat → Prop, Hid (∀ k, hi k ↔ (a ≤ k → k < m → K y < K (X.getD (k - a) 0))) := ⟨_, Lib.hid fun k => Iff.rfl⟩
  obtain ⟨L, HL⟩ : ∃ L, Hid (L = P ++ X ++ [y] ++ S) := ⟨_, Lib.hid rfl⟩
  rw [← HL.out] at HO0 HLn
  go_loopw [14, 15] (fun i j wr => BinR a m lo hi i j ∧ Hid (Own wr base (.slice (some ⟨g, 0, none⟩) n c) L) ∧ Hid (Below base w wr)) (fun i j _ => (intOf j).toNat - (intOf i).toNat)
  case atStart =>
    have hX := HX.out
    exact ⟨.mk' a m (by omega) (by omega) (by omega) rfl rfl (fun k h1 => (HLOI.out k).2 (by omega)) (fun k h1 => (HHII.out k).2 (by omega)), HO0, Lib.hid ((Below.refl _ _).mono hbw)⟩
  case round =>
    obtain ⟨wo, rfl⟩ : ∃ x, x = wr := ⟨_, rfl⟩
    obtain ⟨⟨i, j, h1, h2, h3, rfl, rfl, HLO', HHI'⟩, HO, HB⟩ := hrel
    have HLO := Lib.hid HLO'
    have HHI := Lib.hid HHI'
    clear HLO' HHI'
    by_cases hlt : i < j
    · have hP := HP.out
      have hX := HX.out
      obtain ⟨hxc, hfz⟩ := HO.out.at1 HLn.out (by omega)
      obtain ⟨hh, hhd⟩ : ∃ hh : Nat, hh = (i + j) / 2 := ⟨_, rfl⟩
      have e0 := at_one (P ++ X) y S
      rw [show (P ++ X).length = m by simp; omega, ← HL.out] at e0
      have e1 := at_row P X ([y] ++ S) (hh - a) (by omega)
      rw [hP, show a + (hh - a) = hh by omega, ← List.append_assoc, ← HL.out] at e1
      have z0 := hxc m (by omega)
      have z1 := hxc hh (by omega)
      rw [e0] at z0
      rw [e1] at z1
      have hAx : A (X.getD (hh - a) 0) := HAX.out _ (getD_memI (by omega))
      have HKy := Lib.hid (HK.out _ _ hAy hAx)
      have HKM := Lib.hid (fun k (h1 : k ≤ hh - a) => sorted_K HS.out (i := k) (j := hh - a) h1 (by omega))
      have HKN := Lib.hid (fun k (h1 : hh - a ≤ k) (h2 : k < X.length) => sorted_K HS.out (i := hh - a) (j := k) h1 h2)
      have k1 := quiet_below (w := wo) (fun W hW => HF.out _ _ hAy hAx W ((HB0.out.trans HB.out).trans (hW.mono (by have := HB.out.size; omega))))
      clear hxc hfz e0 e1 hAx hP hX
      generalize X.getD (hh - a) 0 = x at *
      have hk1 := k1 0 #[]
      have u0 : IntKind.i64.wrap ((i : Int) + (j : Int)) = (i : Int) + (j : Int) := IntWalk.i64_in _ (by omega)
      have u1 : ((i : Int) + (j : Int)) / 2 = (hh : Int) := by omega
      have g1 : i ≤ hh := by omega
      have g2 : hh < j := by omega
      have g3 : hh < n := by omega
      clear hhd
      rcases Int.lt_or_le (cf y x) 0 with hr | hr
      · have HLT : Hid (K y < K x) := Lib.hid (HKy.out.1 hr)
        have hr2 : decide (cf y x < 0) = true := decide_eq_true hr
        generalize cf y x = r at *
        go_wp2_with fail
        have c1 := cell_regrown z1
        have c0 := cell_regrown z0
        clear z0 z1
        refine wp_region_below (by kernel_rfl) (by kernel_rfl) ?_
        repeat (go_big_quiet_step (first | (with_reducible exact k1 _ _)))
        refine wpQuiet_nil ?_
        intro wq hbq0
        have HBQ := Lib.hid hbq0
        clear hbq0 c0 c1 k1 hk1
        go_wp2
        all_goals
          go_roundw
          case rel => exact ⟨.mk' i hh (by omega) (by omega) (by omega) rfl rfl HLO.out (fun k q1 => (HHII.out k).2 (fun q2 q3 => by have := HKN.out (k - a) (by omega) (by have := HX.out; omega); have hx := HLT.out; omega)), Lib.hid (HO.out.below HBQ.out), Lib.hid (HB.out.trans (HBQ.out.mono (Nat.le_trans hbw HB.out.size)))⟩
          case measure => simp [intOf]; omega
      · have HLT : Hid (¬ K y < K x) := Lib.hid (fun h => absurd (HKy.out.2 h) (by omega))
        have hr2 : decide (cf y x < 0) = false := decide_eq_false (by omega)
        generalize cf y x = r at *
        go_wp2_with fail
        have c1 := cell_regrown z1
        have c0 := cell_regrown z0
        clear z0 z1
        refine wp_region_below (by kernel_rfl) (by kernel_rfl) ?_
        repeat (go_big_quiet_step (first | (with_reducible exact k1 _ _)))
        refine wpQuiet_nil ?_
        intro wq hbq0
        have HBQ := Lib.hid hbq0
        clear hbq0 c0 c1 k1 hk1
        go_wp2
        all_goals
          go_roundw
          case rel => exact ⟨.mk' (hh + 1) j (by omega) (by omega) (by omega) (by omega) rfl (fun k q1 => (HLOI.out k).2 (fun q2 q3 => by have := HKM.out (k - a) (by omega); have := HLT.out; omega)) HHI.out, Lib.hid (HO.out.below HBQ.out), Lib.hid (HB.out.trans (HBQ.out.mono (Nat.le_trans hbw HB.out.size)))⟩
          case measure => simp [intOf]; omega
    · obtain rfl : i = j := by omega
      have HR := Lib.hid (ins_right (i := i - a) HS.out HXY.out (fun k q1 q2 => by have := (HLOI.out (a + k)).1 (HLO.out (a + k) (by omega)) (by omega) (by have := HX.out; omega); rwa [show a + k - a = k by omega] at this) (fun k q1 q2 => by have := (HHII.out (a + k)).1 (HHI.out (a + k) (by omega)) (by omega) (by have := HX.out; omega); rwa [show a + k - a = k by omega] at this))
      have HLm : Hid (∀ q, q ≤ X.length → (P ++ midR X y S q).length = n) := Lib.hid (fun q hq => by
        have h2 := HLn.out
        rw [HL.out] at h2
        rw [List.length_append, midR_len X y S q hq]
        simp only [List.length_append, List.length_cons, List.length_nil] at h2
        omega)
      go_wp2
      go_loopw [17] (fun k wr => ∃ k' : Nat, i ≤ k' ∧ k' ≤ m ∧ k = .int .i64 k' ∧ Hid (Own wr base (.slice (some ⟨g, 0, none⟩) n c) (P ++ midR X y S (k' - a))) ∧ Hid (Below base w wr)) (fun k _ => (intOf k).toNat - i)
      case atStart => exact ⟨m, by omega, by omega, rfl, Lib.hid (by
        have := HO.out
        rw [HL.out] at this
        rw [show m - a = X.length by have := HX.out; omega, midR_start]; simpa [List.append_assoc] using this), HB⟩
      case round =>
        obtain ⟨wi, rfl⟩ : ∃ x, x = wr := ⟨_, rfl⟩
        obtain ⟨k, q1, q2, rfl, HO2, HB2⟩ := hrel
        clear HO HB
        by_cases hlt2 : i < k
        · obtain ⟨q, rfl⟩ : ∃ q, k = q + 1 := ⟨k - 1, by omega⟩
          have hP := HP.out
          have hX := HX.out
          have hlM := HLm.out (q + 1 - a) (by omega)
          obtain ⟨hxc, hfz⟩ := HO2.out.at1 hlM (by omega)
          have z0 := hxc q (by omega)
          have z1 := hxc (q + 1) (by omega)
          have eq1 : q + 1 - a = q - a + 1 := by omega
          have E1 : (P ++ midR X y S (q + 1 - a)).getD (q + 1) 0 = y := by
            have := pre_at P (midR X y S (q + 1 - a)) (q + 1 - a)
            rw [hP, show a + (q + 1 - a) = q + 1 by omega, midR_at X y S (q + 1 - a) (by omega)] at this
            exact this
          have E0 : (P ++ midR X y S (q + 1 - a)).getD q 0 = X.getD (q - a) 0 := by
            have := pre_at P (midR X y S (q - a + 1)) (q - a)
            rw [hP, show a + (q - a) = q by omega, midR_prev X y S (q - a) (by omega)] at this
            rw [eq1]; exact this
          have U : ((P ++ midR X y S (q + 1 - a)).set (q + 1) (X.getD (q - a) 0)).set q y = P ++ midR X y S (q - a) := by
            have h1 := pre_set P (midR X y S (q - a + 1)) (q - a + 1) (X.getD (q - a) 0)
            have h2 := pre_set P ((midR X y S (q - a + 1)).set (q - a + 1) (X.getD (q - a) 0)) (q - a) y
            rw [hP, show a + (q - a + 1) = q + 1 by omega] at h1
            rw [hP, show a + (q - a) = q by omega, midR_swap X y S (q - a) (by omega)] at h2
            rw [eq1, h1, h2]
          rw [E0] at z0
          rw [E1] at z1
          have f0 := hfz q
          have f1 := hfz (q + 1)
          have O3 := (HO2.out.set_ hlM (q + 1) (X.getD (q - a) 0)).1
          have hlM2 : ((P ++ midR X y S (q + 1 - a)).set (q + 1) (X.getD (q - a) 0)).length = n := by rw [List.length_set]; exact hlM
          have O4 := Lib.hid (O3.set_ hlM2 q y).1
          rw [U] at O4
          generalize X.getD (q - a) 0 = x at *
          have HB4 := Lib.hid ((HB2.out.setCell (p := ⟨g, q + 1, none⟩) hg.1 (.int .i64 x)).setCell (p := ⟨g, q, none⟩) hg.1 (.int .i64 y))
          clear O3 hxc hfz E0 E1 U hlM hlM2 hP hX eq1
          have i1 : (q : Int) + 1 < (n : Int) := by omega
          have i2 : (q : Int) < (n : Int) := by omega
          have i3 : q + 1 < n := by omega
          have i4 : q < n := by omega
          have i5 : (0 : Int) ≤ (q : Int) + 1 := by omega
          have t0 : IntKind.i64.wrap ((q : Int) + 1 - 1) = (q : Int) := by rw [Int.add_sub_cancel]; exact IntWalk.i64_in _ (by omega)
          have t0' : IntKind.i64.wrap (q : Int) = (q : Int) := IntWalk.i64_in _ (by omega)
          have t1 : ((q : Int) + 1).toNat = q + 1 := by omega
          have t2 : decide ((i : Int) < (q : Int) + 1) = true := by simp; omega
          go_wp2_with fail
          go_region_law (fail)
          all_goals
            have HO5 : Hid (Own ((wi.setCell ⟨g, q + 1, none⟩ (.int .i64 x)).setCell ⟨g, q, none⟩ (.int .i64 y)).drew base (.slice (some ⟨g, 0, none⟩) n c) (P ++ midR X y S (q - a))) := O4.out
            have HB5 : Hid (Below base w ((wi.setCell ⟨g, q + 1, none⟩ (.int .i64 x)).setCell ⟨g, q, none⟩ (.int .i64 y)).drew) := ⟨HB4.out.os, HB4.out.tape, HB4.out.output, HB4.out.size, HB4.out.block⟩
            clear z0 z1 f0 f1 t1 t2 i1 i2 i3 i4 i5
            generalize ((wi.setCell ⟨g, q + 1, none⟩ (.int .i64 x)).setCell ⟨g, q, none⟩ (.int .i64 y)).drew = w9 at HO5 HB5 ⊢
            go_wp2
            go_roundw
            case rel => exact ⟨q, by omega, by omega, by first | rfl | go_num, HO5, HB5⟩
            case measure => simp [intOf]; omega
        · have t2 : decide ((i : Int) < (k : Int)) = false := by simp; omega
          have HE : Hid (k - a = i - a) := Lib.hid (by omega)
          go_wp2
          (try simp only [Exit.inBlock, Exit.then])
          refine bodyPost_ret (results_none rfl _ _ _) rfl ?_
          refine ⟨rfl, _, HR.out.2, HR.out.1, ?_, HB2.out⟩
          have := HO2.out
          rw [HE.out] at this
          simpa [midR, List.append_assoc] using this
end Go.Proofs.Ytcmpioalnpmpmaa

