/- slices.symMergeCmpFunc: one element ahead. -/
import Derived.Test.YtdmneccfbfdloaaSymP
namespace Go.Proofs.Ytdmneccfbfdloaa
open Go.RowKit Go.Sort
set_option maxRecDepth 100000
theorem at_one (P : List Int) (x : Int) (R : List Int) : (P ++ [x] ++ R).getD P.length 0 = x := by
  rw [List.append_assoc, List.getD_eq_getElem?_getD, List.getElem?_append_right (Nat.le_refl _), Nat.sub_self]; rfl
theorem at_row (P Y S : List Int) (k : Nat) (h : k < Y.length) : (P ++ Y ++ S).getD (P.length + k) 0 = Y.getD k 0 := by
  rw [List.append_assoc, List.getD_eq_getElem?_getD, List.getElem?_append_right (by omega), show P.length + k - P.length = k by omega, List.getElem?_append_left h, ← List.getD_eq_getElem?_getD]
/-- a step of the element that wanders to the right -/
theorem midR_up (S : List Int) (x : Int) (rest : List Int) (j : Nat) (h : j < S.length) : ((midR S x rest j).set j (S.getD j 0)).set (j + 1) x = midR S x rest (j + 1) := by
  have e1 : S.take (j + 1) = S.take j ++ [S.getD j 0] := by
    rw [List.take_succ_eq_append_getElem (by omega), show S.getD j 0 = S[j] by simp [show j < S.length by omega]]
  have e2 : S.drop j = S.getD j 0 :: S.drop (j + 1) := drop_eq' h
  have hlj : (S.take j).length = j := by rw [List.length_take]; omega
  unfold midR
  rw [e1, e2]
  generalize S.getD j 0 = y
  generalize S.take j = P at *
  simp only [List.append_assoc, List.cons_append, List.nil_append]
  rw [List.set_append_right _ _ (by omega), hlj, Nat.sub_self, List.set_cons_zero, List.set_append_right _ _ (by omega), hlj, show j + 1 - j = 1 by omega, List.set_cons_succ, List.set_cons_zero]
theorem midR_next (S : List Int) (x : Int) (rest : List Int) (j : Nat) (h : j < S.length) : (midR S x rest j).getD (j + 1) 0 = S.getD j 0 := by
  have e2 : S.drop j = S.getD j 0 :: S.drop (j + 1) := drop_eq' h
  have hlj : (S.take j).length = j := by rw [List.length_take]; omega
  unfold midR
  rw [e2, List.append_assoc, List.getD_eq_getElem?_getD, List.getElem?_append_right (by omega), hlj, show j + 1 - j = 1 by omega]
  rfl
/-- the same behind a row P -/
theorem pre_at (P L : List Int) (k : Nat) : (P ++ L).getD (P.length + k) 0 = L.getD k 0 := by
  rw [List.getD_eq_getElem?_getD, List.getElem?_append_right (by omega), show P.length + k - P.length = k by omega, ← List.getD_eq_getElem?_getD]
theorem pre_set (P L : List Int) (k : Nat) (y : Int) : (P ++ L).set (P.length + k) y = P ++ L.set k y := by
  rw [List.set_append_right _ _ (by omega), show P.length + k - P.length = k by omega]
/-- a binary search between m and b -/
def BinR (m b : Nat) (lo hi : Nat → Prop) (i j : Value) : Prop := ∃ i' j' : Nat, m ≤ i' ∧ i' ≤ j' ∧ j' ≤ b ∧ i = .int .i64 i' ∧ j = .int .i64 j' ∧ (∀ k, k < i' → lo k) ∧ (∀ k, j' ≤ k → hi k)
theorem BinR.mk' {m b : Nat} {lo hi : Nat → Prop} {i j : Int} (i' j' : Nat) (h1 : m ≤ i') (h2 : i' ≤ j') (h3 : j' ≤ b) (hi' : (i' : Int) = i) (hj' : (j' : Int) = j) (hl : ∀ k, k < i' → lo k) (hh : ∀ k, j' ≤ k → hi k) : BinR m b lo hi (.int .i64 i) (.int .i64 j) :=
  ⟨i', j', h1, h2, h3, by rw [hi'], by rw [hj'], hl, hh⟩
set_option maxHeartbeats 4000000 in
theorem symA_any (F : FuncId) (caps : Array Value) (hE : Enters F) (cf : Int → Int → Int) (K : Int → Int) (A : Int → Prop) (P : List Int) (x : Int) (Y S : List Int) (a m b n base g c : Nat) (w0 w : World) (hP : P.length = a) (hm : m = a + 1) (hY : m + Y.length = b) (hmb : m < b) (hn : n ≤ 1000) (hln : b ≤ n) (hl : (P ++ [x] ++ Y ++ S).length = n) (hbase : base ≤ w0.heap.size) (hb0 : Below base w0 w)
    (h : Own w base (.slice (some ⟨g, 0, none⟩) n c) (P ++ [x] ++ Y ++ S))
    (hAx : A x) (hAY : ∀ y ∈ Y, A y) (hs : Y.Pairwise (LtK K)) (hx : ∀ y ∈ Y, x < y) (hK : ∀ x y, A x → A y → (cf x y < 0 ↔ K x < K y))
    (hf : ∀ x y, A x → A y → ∀ w', Below base w0 w' → Calls Try.prog F (#[.int .i64 x, .int .i64 y] ++ caps) w' fun e w'' => e = .returned (.int .i64 (cf x y)) ∧ Below w'.heap.size w' w'') :
    Calls Try.prog 72 #[.slice (some ⟨g, 0, none⟩) n c, .int .i64 a, .int .i64 m, .int .i64 b, .func (.func F) #[] caps] w fun e w' => e = .returned (.tuple #[]) ∧ ∃ M, M.Perm ([x] ++ Y) ∧ M.Pairwise (LtK K) ∧ Own w' base (.slice (some ⟨g, 0, none⟩) n c) (P ++ M ++ S) ∧ Below base w w' := by
  have hE' : ∀ (args : Array Value) (W : World), (callFunc F args).run Try.prog W = .ok (.enter F args) W := hE
  have HF := Lib.hid hf
  have HK := Lib.hid hK
  have HAY := Lib.hid hAY
  have HS := Lib.hid hs
  have HXY := Lib.hid hx
  have HO0 := Lib.hid h
  have HP := Lib.hid hP
  have HY := Lib.hid hY
  have HLn := Lib.hid hl
  have HB0 := Lib.hid hb0
  have hg := (h.lt g rfl)
  have hbw : base ≤ w.heap.size := by have := hb0.size; omega
  clear hf hK hAY hs hx h hP hY hl hb0
  have y0 : (((m : Int) - (a : Int)) == 1) = true := by simp; omega
  have ham : a < m := by omega
  have hma : m ≤ a + 1 := by omega
  clear hm
  have y1 : IntKind.i64.wrap ((m : Int) - (a : Int)) = (m : Int) - (a : Int) := IntWalk.i64_in _ (by omega)
  go_enter Try.func72, Try.ntmps72
  go_wp2
  obtain ⟨lo, HLOI⟩ : ∃ lo : Nat → Prop, Hid (∀ k, lo k ↔ (m ≤ k → k < b → K (Y.getD (k - m) 0) < K x)) := ⟨_, Lib.hid fun k => Iff.rfl⟩
  obtain ⟨hi, HHII⟩ : ∃ hi : Nat → Prop, Hid (∀ k, hi k ↔ (m ≤ k → k < b → ¬ K (Y.getD (k - m) 0) < K x)) := ⟨_, Lib.hid fun k => Iff.rfl⟩
  obtain ⟨L, HL⟩ : ∃ L, Hid (L = P ++ [x] ++ Y ++ S) := ⟨_, Lib.hid rfl⟩
  rw [← HL.out] at HO0 HLn
  go_loopw [10, 11] (fun i j wr => BinR m b lo hi i j ∧ Hid (Own wr base (.slice (some ⟨g, 0, none⟩) n c) L) ∧ Hid (Below base w wr)) (fun i j _ => (intOf j).toNat - (intOf i).toNat)
  case atStart =>
    have hY := HY.out
    exact ⟨.mk' m b (by omega) (by omega) (by omega) rfl rfl (fun k h1 => (HLOI.out k).2 (by omega)) (fun k h1 => (HHII.out k).2 (by omega)), HO0, Lib.hid ((Below.refl _ _).mono hbw)⟩
  case round =>
    obtain ⟨wo, rfl⟩ : ∃ x, x = wr := ⟨_, rfl⟩
    obtain ⟨⟨i, j, h1, h2, h3, rfl, rfl, HLO', HHI'⟩, HO, HB⟩ := hrel
    have HLO := Lib.hid HLO'
    have HHI := Lib.hid HHI'
    clear HLO' HHI'
    by_cases hlt : i < j
    · have hP := HP.out
      have hY := HY.out
      obtain ⟨hxc, hfz⟩ := HO.out.at1 HLn.out (by omega)
      obtain ⟨hh, hhd⟩ : ∃ hh : Nat, hh = (i + j) / 2 := ⟨_, rfl⟩
      have e0 := at_one P x (Y ++ S)
      rw [hP, ← List.append_assoc, ← HL.out] at e0
      have e1 := at_row (P ++ [x]) Y S (hh - m) (by omega)
      rw [show (P ++ [x]).length + (hh - m) = hh by simp; omega, ← HL.out] at e1
      have z0 := hxc a (by omega)
      have z1 := hxc hh (by omega)
      rw [e0] at z0
      rw [e1] at z1
      have hAy : A (Y.getD (hh - m) 0) := HAY.out _ (getD_memI (by omega))
      have HKy := Lib.hid (HK.out _ _ hAy hAx)
      have HKM := Lib.hid (fun k (h1 : k ≤ hh - m) => sorted_K HS.out (i := k) (j := hh - m) h1 (by omega))
      have HKN := Lib.hid (fun k (h1 : hh - m ≤ k) (h2 : k < Y.length) => sorted_K HS.out (i := hh - m) (j := k) h1 h2)
      have k1 := quiet_below (w := wo) (fun W hW => HF.out _ _ hAy hAx W ((HB0.out.trans HB.out).trans (hW.mono (by have := HB.out.size; omega))))
      clear hxc hfz e0 e1 hAy hP hY
      generalize Y.getD (hh - m) 0 = y at *
      have hk1 := k1 0 #[]
      have u0 : IntKind.i64.wrap ((i : Int) + (j : Int)) = (i : Int) + (j : Int) := IntWalk.i64_in _ (by omega)
      have u1 : ((i : Int) + (j : Int)) / 2 = (hh : Int) := by omega
      have g1 : i ≤ hh := by omega
      have g2 : hh < j := by omega
      have g3 : hh < n := by omega
      clear hhd
      rcases Int.lt_or_le (cf y x) 0 with hr | hr
      · have HLT := Lib.hid (HKy.out.1 hr)
        generalize cf y x = r at *
        go_wp2_with fail
        have c1 := cell_regrown z1
        have c0 := cell_regrown z0
        clear z0 z1
        refine wp_region_below (by kernel_rfl) (by kernel_rfl) ?_
        repeat (go_big_quiet_step (first | (with_reducible exact k1 _ _)))
        refine wpQuiet_nil ?_
        intro wq hbq0
        have HBQ := Lib.hid hbq0
        clear hbq0 c0 c1 k1 hk1
        go_wp2
        go_roundw
        case rel => exact ⟨.mk' (hh + 1) j (by omega) (by omega) (by omega) (by omega) rfl (fun k q1 => (HLOI.out k).2 (fun q2 q3 => by have := HKM.out (k - m) (by omega); have := HLT.out; omega)) HHI.out, Lib.hid (HO.out.below HBQ.out), Lib.hid (HB.out.trans (HBQ.out.mono (Nat.le_trans hbw HB.out.size)))⟩
        case measure => simp [intOf]; omega
      · have HLT : Hid (¬ K y < K x) := Lib.hid (fun h => absurd (HKy.out.2 h) (by omega))
        generalize cf y x = r at *
        go_wp2_with fail
        have c1 := cell_regrown z1
        have c0 := cell_regrown z0
        clear z0 z1
        refine wp_region_below (by kernel_rfl) (by kernel_rfl) ?_
        repeat (go_big_quiet_step (first | (with_reducible exact k1 _ _)))
        refine wpQuiet_nil ?_
        intro wq hbq0
        have HBQ := Lib.hid hbq0
        clear hbq0 c0 c1 k1 hk1
        go_wp2
        go_roundw
        case rel => exact ⟨.mk' i hh (by omega) (by omega) (by omega) rfl rfl HLO.out (fun k q1 => (HHII.out k).2 (fun q2 q3 => by have := HKN.out (k - m) (by omega) (by have := HY.out; omega); have hx := HLT.out; omega)), Lib.hid (HO.out.below HBQ.out), Lib.hid (HB.out.trans (HBQ.out.mono (Nat.le_trans hbw HB.out.size)))⟩
        case measure => simp [intOf]; omega
    · obtain rfl : i = j := by omega
      have HR := Lib.hid (ins_left (i := i - m) HS.out HXY.out (fun k q1 q2 => by have := (HLOI.out (m + k)).1 (HLO.out (m + k) (by omega)) (by omega) (by have := HY.out; omega); rwa [show m + k - m = k by omega] at this) (fun k q1 q2 => by have := (HHII.out (m + k)).1 (HHI.out (m + k) (by omega)) (by omega) (by have := HY.out; omega); rwa [show m + k - m = k by omega] at this))
      have HLm : Hid (∀ q, q ≤ Y.length → (P ++ midR Y x S q).length = n) := Lib.hid (fun q hq => by
        have h2 := HLn.out
        rw [HL.out] at h2
        rw [List.length_append, midR_len Y x S q hq]
        simp only [List.length_append, List.length_cons, List.length_nil] at h2
        omega)
      have v0 : IntKind.i64.wrap ((i : Int) - 1) = (i : Int) - 1 := IntWalk.i64_in _ (by omega)
      go_wp2
      go_loopw [13] (fun k wr => ∃ k' : Nat, a ≤ k' ∧ k' + 1 ≤ i ∧ k = .int .i64 k' ∧ Hid (Own wr base (.slice (some ⟨g, 0, none⟩) n c) (P ++ midR Y x S (k' - a))) ∧ Hid (Below base w wr)) (fun k _ => i - (intOf k).toNat)
      case atStart => exact ⟨a, by omega, by omega, rfl, Lib.hid (by rw [Nat.sub_self]; have := HO.out; rw [HL.out] at this; simpa [midR, List.append_assoc] using this), HB⟩
      case round =>
        obtain ⟨wi, rfl⟩ : ∃ x, x = wr := ⟨_, rfl⟩
        obtain ⟨k, q1, q2, rfl, HO2, HB2⟩ := hrel
        clear HO HB
        by_cases hlt2 : k + 1 < i
        · have hP := HP.out
          have hY := HY.out
          have hlM := HLm.out (k - a) (by omega)
          obtain ⟨hxc, hfz⟩ := HO2.out.at1 hlM (by omega)
          have z0 := hxc k (by omega)
          have z1 := hxc (k + 1) (by omega)
          have E0 : (P ++ midR Y x S (k - a)).getD k 0 = x := by
            have := pre_at P (midR Y x S (k - a)) (k - a)
            rw [hP, show a + (k - a) = k by omega, midR_at Y x S (k - a) (by omega)] at this
            exact this
          have E1 : (P ++ midR Y x S (k - a)).getD (k + 1) 0 = Y.getD (k - a) 0 := by
            have := pre_at P (midR Y x S (k - a)) (k - a + 1)
            rw [hP, show a + (k - a + 1) = k + 1 by omega, midR_next Y x S (k - a) (by omega)] at this
            exact this
          have U : ((P ++ midR Y x S (k - a)).set k (Y.getD (k - a) 0)).set (k + 1) x = P ++ midR Y x S (k + 1 - a) := by
            have h1 := pre_set P (midR Y x S (k - a)) (k - a) (Y.getD (k - a) 0)
            have h2 := pre_set P ((midR Y x S (k - a)).set (k - a) (Y.getD (k - a) 0)) (k - a + 1) x
            rw [hP, show a + (k - a) = k by omega] at h1
            rw [hP, show a + (k - a + 1) = k + 1 by omega, midR_up Y x S (k - a) (by omega)] at h2
            rw [h1, h2, show k - a + 1 = k + 1 - a by omega]
          rw [E0] at z0
          rw [E1] at z1
          have f0 := hfz k
          have f1 := hfz (k + 1)
          have O3 := (HO2.out.set_ hlM k (Y.getD (k - a) 0)).1
          have hlM2 : ((P ++ midR Y x S (k - a)).set k (Y.getD (k - a) 0)).length = n := by rw [List.length_set]; exact hlM
          have O4 := Lib.hid (O3.set_ hlM2 (k + 1) x).1
          rw [U] at O4
          generalize Y.getD (k - a) 0 = y at *
          have HB4 := Lib.hid ((HB2.out.setCell (p := ⟨g, k, none⟩) hg.1 (.int .i64 y)).setCell (p := ⟨g, k + 1, none⟩) hg.1 (.int .i64 x))
          clear O3 hxc hfz E0 E1 U hlM hlM2 hP hY
          have i1 : (k : Int) + 1 < (n : Int) := by omega
          have i2 : (k : Int) < (n : Int) := by omega
          have i3 : k + 1 < n := by omega
          have i4 : k < n := by omega
          have i5 : (0 : Int) ≤ (k : Int) + 1 := by omega
          have t0 : IntKind.i64.wrap ((k : Int) + 1) = (k : Int) + 1 := IntWalk.i64_in _ (by omega)
          have t1 : ((k : Int) + 1).toNat = k + 1 := by omega
          have t2 : decide ((k : Int) < (i : Int) - 1) = true := by simp; omega
          go_wp2_with fail
          go_region_law (fail)
          all_goals
            have HO5 : Hid (Own ((wi.setCell ⟨g, k, none⟩ (.int .i64 y)).setCell ⟨g, k + 1, none⟩ (.int .i64 x)).drew base (.slice (some ⟨g, 0, none⟩) n c) (P ++ midR Y x S (k + 1 - a))) := O4.out
            have HB5 : Hid (Below base w ((wi.setCell ⟨g, k, none⟩ (.int .i64 y)).setCell ⟨g, k + 1, none⟩ (.int .i64 x)).drew) := ⟨HB4.out.os, HB4.out.tape, HB4.out.output, HB4.out.size, HB4.out.block⟩
            clear z0 z1 f0 f1 t0 t1 t2 i1 i2 i3 i4 i5
            generalize ((wi.setCell ⟨g, k, none⟩ (.int .i64 y)).setCell ⟨g, k + 1, none⟩ (.int .i64 x)).drew = w9 at HO5 HB5 ⊢
            go_wp2
            go_roundw
            case rel => exact ⟨k + 1, by omega, by omega, by go_num, HO5, HB5⟩
            case measure => simp [intOf]; omega
        · have t2 : decide ((k : Int) < (i : Int) - 1) = false := by simp; omega
          have HE : Hid (k - a = i - m) := Lib.hid (by omega)
          go_wp2
          (try simp only [Exit.inBlock, Exit.then])
          refine bodyPost_ret (results_none rfl _ _ _) rfl ?_
          refine ⟨rfl, _, HR.out.2, HR.out.1, ?_, HB2.out⟩
          have := HO2.out
          rw [HE.out] at this
          simpa [midR, List.append_assoc] using this
end Go.Proofs.Ytdmneccfbfdloaa
