/- FnExactCountSymmetries: impl.CountSymmetries. -/
import Derived.Test.YtceeplhkokajhabOrdW
import Derived.Test.YtceeplhkokajhabPerm
import Derived.Deep.RegionHeld3
namespace Go.Proofs.Ytceeplhkokajhab
open Go.RowKit Go.Sort
set_option maxRecDepth 100000
attribute [local go_sem] Oper.semAt_some
/-- how many orders of this list leave the tour as it is -/
noncomputable def cntL (xs : List Int) (l : List (List Nat)) : Nat := (l.filter fun ns => decide (xs = rnL xs (nI ns))).length
theorem cnt_snoc (xs : List Int) (l : List (List Nat)) (ns : List Nat) : cntL xs (l ++ [ns]) = cntL xs l + (decide (xs = rnL xs (nI ns))).toNat := by
  unfold cntL
  rw [List.filter_append, List.length_append]
  congr 1
  rw [List.filter_cons]
  cases decide (xs = rnL xs (nI ns)) <;> simp
noncomputable def symB6 (s : Int) (xs : List Int) : Bool := tourB s xs && decide (s ≤ 6)
noncomputable def symN (s : Int) (xs : List Int) : Int := if symB6 s xs = true then (cntL xs (ordL xs.length) : Int) else 0
theorem cnt_le (xs : List Int) (l : List (List Nat)) : cntL xs l ≤ l.length := List.length_filter_le _ _
theorem wrap_wrap1 (a : Int) : wrap64 (wrap64 a + 1) = wrap64 (a + 1) := by unfold wrap64; omega
/-- what lies in the boxes between two rounds -/
def SymI (w0 : World) (xs : List Int) (cb tb : Nat) (n : Nat) (sl : Value) (done : List (List Nat)) (W : World) : Prop :=
  W.cell? ⟨cb, 0, none⟩ = some (.int .i64 (wrap64 (cntL xs done : Nat))) ∧ W.frozen? ⟨cb, 0, none⟩ = false ∧ TBox W tb n sl ∧ Rd W sl xs ∧ Below w0.heap.size w0 W
theorem SymI.abn {w0 : World} {xs : List Int} {cb tb n B : Nat} {sl : Value} (h0 : Rd w0 sl xs) (hc : cb < B) (ht : tb < B) (hw : w0.heap.size ≤ B) : AbN B (SymI w0 xs cb tb n sl) := by
  intro s W W' row h hg hr
  obtain ⟨h1, h2, h3, h4, h5⟩ := h
  have hb : Below w0.heap.size w0 W' := h5.grown hg h5.size (fun k e => Nat.le_trans hw (hr k e))
  have hcW := World.block_lt_of_cell? W _ h1
  refine ⟨(World.cell?_of_block (hg.block cb hcW (fun e => by have := hr _ e.symm; omega))).trans h1, (frozen_of_block (hg.block cb hcW (fun e => by have := hr _ e.symm; omega))).trans h2, h3.kept hg (fun e => by have := hr _ e.symm; omega), h0.below hb, hb⟩
set_option maxHeartbeats 4000000 in
theorem implCSym (s : Int) (sl : Value) (xs : List Int) (w : World) (h : Rd w sl xs) :
    Calls Try.prog 11 #[.agg #[.int .i64 s, sl]] w fun e w' => e = .returned (.int .i64 (symN s xs)) ∧ Below w.heap.size w w' := by
  have HR := Lib.hid h
  obtain ⟨A, c, rfl, -, hcm, -⟩ := h
  unfold maxLen at hcm
  rcases q0 : tourB s xs with _ | _
  · have e0 : symN s xs = 0 := by simp [symN, symB6, q0]
    rw [e0]
    go_enter Try.func11, Try.ntmps11
    go_wp2_with fail
    have b0 := below_alloc1 w (.cells #[.int .i64 s, .slice A xs.length c] 27)
    have x0 := TBox.new w s (.slice A xs.length c) 27
    generalize w.alloc (.cells #[.int .i64 s, .slice A xs.length c] 27) = w0 at *
    have HX0 := Lib.hid x0
    have HB0 := Lib.hid b0
    clear x0 b0
    have y0_0 := HX0.out.1
    have y1_0 := HX0.out.2
    go_wp2_with fail
    refine (implTourOk s _ xs _ (HR.out.below HB0.out)).mono ?_
    rintro e w1 ⟨rfl, hb⟩
    have HX1 := Lib.hid (HX0.out.below hb)
    have HB1 := Lib.hid (Below.then HB0.out hb)
    clear hb HX0 HB0 y0_0 y1_0
    have y0_1 := HX1.out.1
    have y1_1 := HX1.out.2
    rw [q0]
    go_wp2
    go_ret
    exact ⟨rfl, HB1.out⟩
  · have hp := tourB_true.1 q0
    have hs := hp.1
    have hsl := hp.2.1
    have HP := Lib.hid hp
    clear hp
    by_cases h6 : s ≤ 6
    · have HE : Hid (symN s xs = (cntL xs (ordL xs.length) : Int)) := by unfold Hid; simp [symN, symB6, q0, h6]
      generalize hln : xs.length = n at *
      obtain rfl : s = (n : Int) := by omega
      have HL := Lib.hid hln
      clear hln hsl
      have h6n : n ≤ 6 := by omega
      have h6b : decide ((6 : Int) < (n : Int)) = false := decide_eq_false (by omega)
      clear h6
      refine calls_of_wpM Try.func11 rfl ?_
      simp only [Try.ntmps11, List.size_toArray, List.length_cons, List.length_nil, Nat.reduceAdd, Nat.reduceSub, Array.replicate_succ, Array.replicate_zero, List.push_toArray, List.append_toArray, List.nil_append, List.cons_append]
      go_wp2_with fail
      have b0 := below_alloc1 w (.cells #[.int .i64 n, .slice A n c] 27)
      have x0 := TBox.new w n (.slice A n c) 27
      generalize w.alloc (.cells #[.int .i64 n, .slice A n c] 27) = w0 at *
      have HX0 := Lib.hid x0
      have HB0 := Lib.hid b0
      clear x0 b0
      have y0_0 := HX0.out.1
      have y1_0 := HX0.out.2
      go_wp2_with fail
      refine (implTourOk n _ xs _ (HR.out.below HB0.out)).mono ?_
      rintro e w1 ⟨rfl, hb⟩
      have HX1 := Lib.hid (HX0.out.below hb)
      have HB1 := Lib.hid (Below.then HB0.out hb)
      clear hb HX0 HB0 y0_0 y1_0
      have y0_1 := HX1.out.1
      have y1_1 := HX1.out.2
      rw [q0]
      have bb := below_alloc1 w1 (.cells #[.int .i64 0] 3)
      have XA := HX1.out.below bb
      have CA := cell_new1 w1 (.int .i64 0) 3
      have FA : (w1.alloc (.cells #[.int .i64 0] 3)).frozen? ⟨w1.heap.size, 0, none⟩ = false := by simp
      have SA : w1.heap.size < (w1.alloc (.cells #[.int .i64 0] 3)).heap.size := by simp
      have HBA := Lib.hid (Below.then HB1.out bb)
      have htb := World.block_lt_of_cell? _ _ HX1.out.1
      have y0_2 := XA.1
      clear HB1
      go_wp2_with fail
      generalize w1.alloc (.cells #[.int .i64 0] 3) = w2 at *
      have HXA := Lib.hid XA
      have HCA := Lib.hid CA
      have HFA := Lib.hid FA
      clear bb XA CA FA y0_1 y1_1 y0_2
      refine (indices_any n (by omega) w2 (by omega)).mono ?_
      rintro e w3 ⟨rfl, ho3, hb3⟩
      have HO3 := Lib.hid ho3
      have HB3 := Lib.hid hb3
      clear ho3 hb3
      go_wp2_with fail
      refine (orders_any _ n n w3).mono ?_
      rintro e w4 ⟨rfl, hw4⟩
      have HW4 := Lib.hid hw4
      clear hw4
      go_wp2_with fail
      have s3 := (HO3.out.lt w2.heap.size rfl).2
      have h4s : w4.heap.size = w3.heap.size + 1 := by rw [HW4.out]; simp
      have b34 : Below w3.heap.size w3 w4 := by rw [HW4.out]; exact below_alloc1 _ _
      have HB4 := Lib.hid (Below.then (Below.then HBA.out HB3.out) b34)
      have HX4 := Lib.hid ((HXA.out.below HB3.out).below b34)
      have b24 := Below.then HB3.out b34
      have hc4 := (b24.cell (p := ⟨w1.heap.size, 0, none⟩) SA).trans HCA.out
      have hf4 := (b24.frozen (p := ⟨w1.heap.size, 0, none⟩) SA).trans HFA.out
      have SEQ := orders_all (n := n) (by omega) w3.heap.size w2.heap.size w1.heap.size w4 (by omega) (by omega) (by omega) ⟨by omega, by omega⟩ (by rw [HW4.out]; exact cell_new1 _ _ _) (fun k hk => by
        have hx := ((HO3.out.below b34).at1 (idxL_len n) (by omega)).1 k hk
        rw [idxL_at hk] at hx
        exact hx)
      have hI0 : SymI w xs w1.heap.size w.heap.size n (.slice A n c) [] w4 := ⟨by rw [hc4]; simp [cntL, wrap64], hf4, HX4.out, HR.out.below HB4.out, HB4.out⟩
      refine wp_rangeFunc_all (gf := 72) (lb := #[.pointer (some ⟨w3.heap.size, 0, none⟩)]) rfl (fun _ _ => by kernel_rfl) SEQ (Below.refl _ _) (by omega) rfl (fun W l o o' x v h1 h2 h3 => rd_put h1 h2 h3)
        (SymI w xs w1.heap.size w.heap.size n (.slice A n c)) (SymI.abn HR.out (by omega) (by omega) (by omega)) hI0
        (fun v => { tmps := #[.agg #[.int .i64 n, .slice A n c], .pointer (some ⟨w.heap.size, 0, none⟩), .int .i64 0, .pointer (some ⟨w1.heap.size, 0, none⟩), v, .agg #[.int .i64 n, .slice A n c], .bool true, .bool false, .bool false, .pointer (some ⟨w.heap.size, 0, none⟩), .int .i64 n, .bool false, .bool false, .pointer (some ⟨w.heap.size, 0, none⟩), .int .i64 n, .slice (some ⟨w2.heap.size, 0, none⟩) n n, .func (.func 72) #[] #[.pointer (some ⟨w3.heap.size, 0, none⟩)], v, undef, undef, undef, undef, undef, undef, undef, undef], defers := [] }) ?assign ?body ?done
      case assign =>
        intro l v W K hK
        gi_wp2
        exact hK
      case body =>
        rintro l pre x v W ⟨hc, hf, hx, hr, hb⟩ hen hmem hsz
        gi_wp2_with fail
        have HSS := Lib.hid hb
        have HRX := Lib.hid hen
        have hPx := perm_nI.2 hmem
        have HPX := Lib.hid hPx
        have hHeld : W.drew.cell? ⟨w.heap.size, 0, none⟩ = some (.int .i64 n) ∧ W.drew.cell? ⟨w.heap.size, 1, none⟩ = some (.slice A n c) := hx
        have HX := Lib.hid hx
        have HRR := Lib.hid hr
        have HC0 := Lib.hid hc
        have HF0 := Lib.hid hf
        clear hb hen hPx hx hr hc hf
        refine round_region (noDefer_spec (by kernel_rfl)) (fun ⟨_, _, h⟩ => h) (by kernel_rfl) (wpAny_of_held (S := fun W' => W'.cell? ⟨w.heap.size, 0, none⟩ = some (.int .i64 n) ∧ W'.cell? ⟨w.heap.size, 1, none⟩ = some (.slice A n c)) _ _ _ _ ?_)
        refine wpAnyH_take (i := 0) (v := .agg #[.int .i64 n, .slice A n c]) rfl (by kernel_rfl) (by kernel_rfl) (by kernel_rfl) (fun _ _ _ h => h) (Or.inl ⟨by rfl, by (intro w' hSw; obtain ⟨g0, g1⟩ := hSw; go_simp)⟩) hHeld ?_
        refine wpAnyH_take (i := 1) (v := .agg #[.int .i64 n, .slice A n c]) rfl (by kernel_rfl) (by kernel_rfl) (by kernel_rfl) (fun _ _ _ h => h) (Or.inl ⟨by rfl, by (intro w' hSw; obtain ⟨g0, g1⟩ := hSw; go_simp)⟩) hHeld ?_
        refine wpAnyH_take (i := 2) (v := v) rfl (by kernel_rfl) (by kernel_rfl) (by kernel_rfl) (fun _ _ _ h => h) (Or.inl ⟨by rfl, by (intro w' hSw; go_simp)⟩) hHeld ?_
        refine wpAnyH_ready (rs := [3]) (by kernel_rfl) (by simp) ?_
        refine AllReadyH.cons rfl (fun K hK => ?_) AllReadyH.nil
        go_simp
        refine (renamed_any n _ xs (nI x) v W.drew (show Rd W.drew _ _ from HRR.out) HP.out (show Rd W.drew _ _ from HRX.out) (by rw [HL.out]; exact HPX.out)).mono ?_
        rintro e w5 ⟨sl', rfl, ho5, -, hb5⟩
        obtain ⟨Y, cy, rfl, -, -, -⟩ := ho5.form
        have hX5 := (show TBox W.drew w.heap.size n (.slice A n c) from HX.out).below hb5
        refine hK.out _ _ ⟨hX5.1, hX5.2⟩ (fun hHeld5 => ?_)
        clear hK K
        refine wpAnyH_ready (rs := [4]) (by kernel_rfl) (by simp) ?_
        refine AllReadyH.cons rfl (fun K hK => ?_) AllReadyH.nil
        go_simp
        have BD := Lib.hid (show Below W.heap.size W W.drew from (Below.refl _ _).drew)
        have B5 := Lib.hid (Below.then BD.out hb5)
        refine (same_any n (.slice A n c) _ xs (rnL xs (nI x)) w5 (HRR.out.below B5.out) ho5.rd).mono ?_
        rintro e w6 ⟨rfl, hb6⟩
        have hX6 := hX5.below hb6
        refine hK.out _ _ ⟨hX6.1, hX6.2⟩ (fun hHeld6 => ?_)
        clear hK K
        refine wpAnyH_done (by kernel_rfl) ?_ _
        have B6 := Lib.hid (Below.then B5.out hb6)
        have HX6 := Lib.hid hX6
        have hcW := World.block_lt_of_cell? W _ HC0.out
        have hc6 := (B6.out.cell (p := ⟨w1.heap.size, 0, none⟩) hcW).trans HC0.out
        have hf6 := (B6.out.frozen (p := ⟨w1.heap.size, 0, none⟩) hcW).trans HF0.out
        have HS := Lib.hid (cnt_snoc xs pre x)
        have hbw : w.heap.size ≤ w1.heap.size := Nat.le_of_lt htb
        have BW6 := Lib.hid (Below.then HSS.out B6.out)
        clear hHeld hHeld5 hHeld6 hX5 hX6 hb5 hb6 ho5
        rcases qd : decide (xs = rnL xs (nI x)) with _ | _
        · rw [qd] at HS
          gi_wp2
          exact ⟨grown_below B6.out _, by rw [hc6, HS.out]; simp, hf6, HX6.out, HRR.out.below B6.out, BW6.out⟩
        · rw [qd] at HS
          have HCV := Lib.hid hc6
          generalize hcv : wrap64 ((cntL xs pre : Nat) : Int) = cv at *
          have HV := Lib.hid hcv
          clear hcv
          gi_wp2
          have hg := setCell_grown w6 ⟨w1.heap.size, 0, none⟩ (.int .i64 (wrap64 (cv + 1)))
          refine ⟨(grown_below B6.out (some w1.heap.size)).trans hg, ?_, by rw [World.frozen?_setCell]; exact hf6, HX6.out.kept hg (by intro e; injection e with e; have e : w.heap.size = w1.heap.size := e; omega), HR.out.below (BW6.out.setCell (p := ⟨w1.heap.size, 0, none⟩) hbw _), BW6.out.setCell (p := ⟨w1.heap.size, 0, none⟩) hbw _⟩
          rw [World.cell?_setCell_same _ _ _ HCV.out, HS.out, ← HV.out, wrap_wrap1]; simp
      case done =>
        rintro D W hD ⟨hc, hf, hx, hr, hb⟩ hK
        have HB := Lib.hid hb
        have HKD := Lib.hid hK
        have HQ : Hid (wrap64 ((cntL xs (ordL n) : Nat) : Int) = (cntL xs (ordL n) : Nat)) := by
          have h1 := cnt_le xs (ordL n)
          have h2 : (ordL n).length ≤ 720 := (show ∀ n, n < 7 → (ordL n).length ≤ 720 by decide +kernel) n (by omega)
          exact IntWalk.wrap64_in _ (by omega)
        have HC := Lib.hid hc
        clear hb hK hx hr
        rw [HQ.out] at hc
        go_wp2
        have HBF := Lib.hid (HB.out.trans (belowK_b (w := w) (Nat.le_refl _) W D _ (.deferred none) (by omega) HKD.out rfl rfl))
        refine ⟨by simp, .inl ⟨_, _, rfl, run_takeDeferred HKD.out, ?_⟩⟩
        exact ⟨_, results_tmp rfl _ _ _, by rw [HE.out]; rfl, HBF.out⟩
    · have e0 : symN s xs = 0 := by simp [symN, symB6, h6]
      rw [e0]
      have h7 : 7 ≤ s := by omega
      clear hsl
      have h7b : decide (6 < s) = true := decide_eq_true (by omega)
      go_enter Try.func11, Try.ntmps11
      go_wp2_with fail
      have b0 := below_alloc1 w (.cells #[.int .i64 s, .slice A xs.length c] 27)
      have x0 := TBox.new w s (.slice A xs.length c) 27
      generalize w.alloc (.cells #[.int .i64 s, .slice A xs.length c] 27) = w0 at *
      have HX0 := Lib.hid x0
      have HB0 := Lib.hid b0
      clear x0 b0
      have y0_0 := HX0.out.1
      have y1_0 := HX0.out.2
      go_wp2_with fail
      refine (implTourOk s _ xs _ (HR.out.below HB0.out)).mono ?_
      rintro e w1 ⟨rfl, hb⟩
      have HX1 := Lib.hid (HX0.out.below hb)
      have HB1 := Lib.hid (Below.then HB0.out hb)
      clear hb HX0 HB0 y0_0 y1_0
      have y0_1 := HX1.out.1
      have y1_1 := HX1.out.2
      rw [q0]
      go_wp2
      go_ret
      exact ⟨rfl, HB1.out⟩
end Go.Proofs.Ytceeplhkokajhab
