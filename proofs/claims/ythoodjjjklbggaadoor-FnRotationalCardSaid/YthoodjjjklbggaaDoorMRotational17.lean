/- Texts put together: CSym, LeastI, Names, Less, CSymS, LeastS, LeastF, LikeS. -/
import Derived.Test.YthoodjjjklbggaaDoorMRotational16
import Derived.Test.YthoodjjjklbggaaDoorMRotational08
import Derived.Deep.RegionHeld3
import Derived.Test.YthoodjjjklbggaaDoorMRotational02
import Derived.Deep.DeepCutAuto
import Derived.Test.YthoodjjjklbggaaDoorMRotational10
import Derived.Test.YthoodjjjklbggaaDoorMRotational09
import Derived.Test.YthoodjjjklbggaaDoorMRotational04
import Derived.Test.YthoodjjjklbggaaDoorMRotational15
namespace Go.Proofs.YthoodjjjklbggaaDoor
open Go.RowKit Go.Sort
set_option maxRecDepth 100000
attribute [local go_sem] Oper.semAt_some
/-- how many orders of this list leave the tour as it is -/
noncomputable def cntL (xs : List Int) (l : List (List Nat)) : Nat := (l.filter fun ns => decide (xs = rnL xs (nI ns))).length
theorem cnt_snoc (xs : List Int) (l : List (List Nat)) (ns : List Nat) : cntL xs (l ++ [ns]) = cntL xs l + (decide (xs = rnL xs (nI ns))).toNat := by
  unfold cntL
  rw [List.filter_append, List.length_append]
  congr 1
  rw [List.filter_cons]
  cases decide (xs = rnL xs (nI ns)) <;> simp
noncomputable def symB6 (s : Int) (xs : List Int) : Bool := tourB s xs && decide (s ≤ 6)
noncomputable def symN (s : Int) (xs : List Int) : Int := if symB6 s xs = true then (cntL xs (ordL xs.length) : Int) else 0
theorem cnt_le (xs : List Int) (l : List (List Nat)) : cntL xs l ≤ l.length := List.length_filter_le _ _
theorem wrap_wrap1 (a : Int) : wrap64 (wrap64 a + 1) = wrap64 (a + 1) := by unfold wrap64; omega
/-- what lies in the boxes between two rounds -/
def SymI (w0 : World) (xs : List Int) (cb tb : Nat) (n : Nat) (sl : Value) (done : List (List Nat)) (W : World) : Prop :=
  W.cell? ⟨cb, 0, none⟩ = some (.int .i64 (wrap64 (cntL xs done : Nat))) ∧ W.frozen? ⟨cb, 0, none⟩ = false ∧ TBox W tb n sl ∧ Rd W sl xs ∧ Below w0.heap.size w0 W
theorem SymI.abn {w0 : World} {xs : List Int} {cb tb n B : Nat} {sl : Value} (h0 : Rd w0 sl xs) (hc : cb < B) (ht : tb < B) (hw : w0.heap.size ≤ B) : AbN B (SymI w0 xs cb tb n sl) := by
  intro s W W' row h hg hr
  obtain ⟨h1, h2, h3, h4, h5⟩ := h
  have hb : Below w0.heap.size w0 W' := h5.grown hg h5.size (fun k e => Nat.le_trans hw (hr k e))
  have hcW := World.block_lt_of_cell? W _ h1
  refine ⟨(World.cell?_of_block (hg.block cb hcW (fun e => by have := hr _ e.symm; omega))).trans h1, (frozen_of_block (hg.block cb hcW (fun e => by have := hr _ e.symm; omega))).trans h2, h3.kept hg (fun e => by have := hr _ e.symm; omega), h0.below hb, hb⟩
set_option maxHeartbeats 4000000 in
theorem implCSym (s : Int) (sl : Value) (xs : List Int) (w : World) (h : Rd w sl xs) :
    Calls Tryd.prog 18 #[.agg #[.int .i64 s, sl]] w fun e w' => e = .returned (.int .i64 (symN s xs)) ∧ Below w.heap.size w w' := by
  have HR := Lib.hid h
  obtain ⟨A, c, rfl, -, hcm, -⟩ := h
  unfold maxLen at hcm
  rcases q0 : tourB s xs with _ | _
  · have e0 : symN s xs = 0 := by simp [symN, symB6, q0]
    rw [e0]
    go_enter Tryd.func18, Tryd.ntmps18
    go_wp2_with fail
    have b0 := below_alloc1 w (.cells #[.int .i64 s, .slice A xs.length c] 25)
    have x0 := TBox.new w s (.slice A xs.length c) 25
    generalize w.alloc (.cells #[.int .i64 s, .slice A xs.length c] 25) = w0 at *
    have HX0 := Lib.hid x0
    have HB0 := Lib.hid b0
    clear x0 b0
    have y0_0 := HX0.out.1
    have y1_0 := HX0.out.2
    go_wp2_with fail
    refine (implTourOk s _ xs _ (HR.out.below HB0.out)).mono ?_
    rintro e w1 ⟨rfl, hb⟩
    have HX1 := Lib.hid (HX0.out.below hb)
    have HB1 := Lib.hid (Below.then HB0.out hb)
    clear hb HX0 HB0 y0_0 y1_0
    have y0_1 := HX1.out.1
    have y1_1 := HX1.out.2
    rw [q0]
    go_wp2
    go_ret
    exact ⟨rfl, HB1.out⟩
  · have hp := tourB_true.1 q0
    have hs := hp.1
    have hsl := hp.2.1
    have HP := Lib.hid hp
    clear hp
    by_cases h6 : s ≤ 6
    · have HE : Hid (symN s xs = (cntL xs (ordL xs.length) : Int)) := by unfold Hid; simp [symN, symB6, q0, h6]
      generalize hln : xs.length = n at *
      obtain rfl : s = (n : Int) := by omega
      have HL := Lib.hid hln
      clear hln hsl
      have h6n : n ≤ 6 := by omega
      have h6b : decide ((6 : Int) < (n : Int)) = false := decide_eq_false (by omega)
      clear h6
      refine calls_of_wpM Tryd.func18 rfl ?_
      simp only [Tryd.ntmps18, List.size_toArray, List.length_cons, List.length_nil, Nat.reduceAdd, Nat.reduceSub, Array.replicate_succ, Array.replicate_zero, List.push_toArray, List.append_toArray, List.nil_append, List.cons_append]
      go_wp2_with fail
      have b0 := below_alloc1 w (.cells #[.int .i64 n, .slice A n c] 25)
      have x0 := TBox.new w n (.slice A n c) 25
      generalize w.alloc (.cells #[.int .i64 n, .slice A n c] 25) = w0 at *
      have HX0 := Lib.hid x0
      have HB0 := Lib.hid b0
      clear x0 b0
      have y0_0 := HX0.out.1
      have y1_0 := HX0.out.2
      go_wp2_with fail
      refine (implTourOk n _ xs _ (HR.out.below HB0.out)).mono ?_
      rintro e w1 ⟨rfl, hb⟩
      have HX1 := Lib.hid (HX0.out.below hb)
      have HB1 := Lib.hid (Below.then HB0.out hb)
      clear hb HX0 HB0 y0_0 y1_0
      have y0_1 := HX1.out.1
      have y1_1 := HX1.out.2
      rw [q0]
      have bb := below_alloc1 w1 (.cells #[.int .i64 0] 3)
      have XA := HX1.out.below bb
      have CA := cell_new1 w1 (.int .i64 0) 3
      have FA : (w1.alloc (.cells #[.int .i64 0] 3)).frozen? ⟨w1.heap.size, 0, none⟩ = false := by simp
      have SA : w1.heap.size < (w1.alloc (.cells #[.int .i64 0] 3)).heap.size := by simp
      have HBA := Lib.hid (Below.then HB1.out bb)
      have htb := World.block_lt_of_cell? _ _ HX1.out.1
      have y0_2 := XA.1
      clear HB1
      go_wp2_with fail
      generalize w1.alloc (.cells #[.int .i64 0] 3) = w2 at *
      have HXA := Lib.hid XA
      have HCA := Lib.hid CA
      have HFA := Lib.hid FA
      clear bb XA CA FA y0_1 y1_1 y0_2
      refine (indices_any n (by omega) w2 (by omega)).mono ?_
      rintro e w3 ⟨rfl, ho3, hb3⟩
      have HO3 := Lib.hid ho3
      have HB3 := Lib.hid hb3
      clear ho3 hb3
      go_wp2_with fail
      refine (orders_any _ n n w3).mono ?_
      rintro e w4 ⟨rfl, hw4⟩
      have HW4 := Lib.hid hw4
      clear hw4
      go_wp2_with fail
      have s3 := (HO3.out.lt w2.heap.size rfl).2
      have h4s : w4.heap.size = w3.heap.size + 1 := by rw [HW4.out]; simp
      have b34 : Below w3.heap.size w3 w4 := by rw [HW4.out]; exact below_alloc1 _ _
      have HB4 := Lib.hid (Below.then (Below.then HBA.out HB3.out) b34)
      have HX4 := Lib.hid ((HXA.out.below HB3.out).below b34)
      have b24 := Below.then HB3.out b34
      have hc4 := (b24.cell (p := ⟨w1.heap.size, 0, none⟩) SA).trans HCA.out
      have hf4 := (b24.frozen (p := ⟨w1.heap.size, 0, none⟩) SA).trans HFA.out
      have SEQ := orders_all (n := n) (by omega) w3.heap.size w2.heap.size w1.heap.size w4 (by omega) (by omega) (by omega) ⟨by omega, by omega⟩ (by rw [HW4.out]; exact cell_new1 _ _ _) (fun k hk => by
        have hx := ((HO3.out.below b34).at1 (idxL_len n) (by omega)).1 k hk
        rw [idxL_at hk] at hx
        exact hx)
      have hI0 : SymI w xs w1.heap.size w.heap.size n (.slice A n c) [] w4 := ⟨by rw [hc4]; simp [cntL, wrap64], hf4, HX4.out, HR.out.below HB4.out, HB4.out⟩
      refine wp_rangeFunc_all (gf := 73) (lb := #[.pointer (some ⟨w3.heap.size, 0, none⟩)]) rfl (fun _ _ => by kernel_rfl) SEQ (Below.refl _ _) (by omega) rfl (fun W l o o' x v h1 h2 h3 => rd_put h1 h2 h3)
        (SymI w xs w1.heap.size w.heap.size n (.slice A n c)) (SymI.abn HR.out (by omega) (by omega) (by omega)) hI0
        (fun v => { tmps := #[.agg #[.int .i64 n, .slice A n c], .pointer (some ⟨w.heap.size, 0, none⟩), .int .i64 0, .pointer (some ⟨w1.heap.size, 0, none⟩), v, .agg #[.int .i64 n, .slice A n c], .bool true, .bool false, .bool false, .pointer (some ⟨w.heap.size, 0, none⟩), .int .i64 n, .bool false, .bool false, .pointer (some ⟨w.heap.size, 0, none⟩), .int .i64 n, .slice (some ⟨w2.heap.size, 0, none⟩) n n, .func (.func 73) #[] #[.pointer (some ⟨w3.heap.size, 0, none⟩)], v, undef, undef, undef, undef, undef, undef, undef, undef], defers := [] }) ?assign ?body ?done
      case assign =>
        intro l v W K hK
        gi_wp2
        exact hK
      case body =>
        rintro l pre x v W ⟨hc, hf, hx, hr, hb⟩ hen hmem hsz
        gi_wp2_with fail
        have HSS := Lib.hid hb
        have HRX := Lib.hid hen
        have hPx := perm_nI.2 hmem
        have HPX := Lib.hid hPx
        have hHeld : W.drew.cell? ⟨w.heap.size, 0, none⟩ = some (.int .i64 n) ∧ W.drew.cell? ⟨w.heap.size, 1, none⟩ = some (.slice A n c) := hx
        have HX := Lib.hid hx
        have HRR := Lib.hid hr
        have HC0 := Lib.hid hc
        have HF0 := Lib.hid hf
        clear hb hen hPx hx hr hc hf
        refine round_region (noDefer_spec (by kernel_rfl)) (fun ⟨_, _, h⟩ => h) (by kernel_rfl) (wpAny_of_held (S := fun W' => W'.cell? ⟨w.heap.size, 0, none⟩ = some (.int .i64 n) ∧ W'.cell? ⟨w.heap.size, 1, none⟩ = some (.slice A n c)) _ _ _ _ ?_)
        refine wpAnyH_take (i := 0) (v := .agg #[.int .i64 n, .slice A n c]) rfl (by kernel_rfl) (by kernel_rfl) (by kernel_rfl) (fun _ _ _ h => h) (Or.inl ⟨by rfl, by (intro w' hSw; obtain ⟨g0, g1⟩ := hSw; go_simp)⟩) hHeld ?_
        refine wpAnyH_take (i := 1) (v := .agg #[.int .i64 n, .slice A n c]) rfl (by kernel_rfl) (by kernel_rfl) (by kernel_rfl) (fun _ _ _ h => h) (Or.inl ⟨by rfl, by (intro w' hSw; obtain ⟨g0, g1⟩ := hSw; go_simp)⟩) hHeld ?_
        refine wpAnyH_take (i := 2) (v := v) rfl (by kernel_rfl) (by kernel_rfl) (by kernel_rfl) (fun _ _ _ h => h) (Or.inl ⟨by rfl, by (intro w' hSw; go_simp)⟩) hHeld ?_
        refine wpAnyH_ready (rs := [3]) (by kernel_rfl) (by simp) ?_
        refine AllReadyH.cons rfl (fun K hK => ?_) AllReadyH.nil
        go_simp
        refine (renamed_any n _ xs (nI x) v W.drew (show Rd W.drew _ _ from HRR.out) HP.out (show Rd W.drew _ _ from HRX.out) (by rw [HL.out]; exact HPX.out)).mono ?_
        rintro e w5 ⟨sl', rfl, ho5, -, hb5⟩
        obtain ⟨Y, cy, rfl, -, -, -⟩ := ho5.form
        have hX5 := (show TBox W.drew w.heap.size n (.slice A n c) from HX.out).below hb5
        refine hK.out _ _ ⟨hX5.1, hX5.2⟩ (fun hHeld5 => ?_)
        clear hK K
        refine wpAnyH_ready (rs := [4]) (by kernel_rfl) (by simp) ?_
        refine AllReadyH.cons rfl (fun K hK => ?_) AllReadyH.nil
        go_simp
        have BD := Lib.hid (show Below W.heap.size W W.drew from (Below.refl _ _).drew)
        have B5 := Lib.hid (Below.then BD.out hb5)
        refine (same_any n (.slice A n c) _ xs (rnL xs (nI x)) w5 (HRR.out.below B5.out) ho5.rd).mono ?_
        rintro e w6 ⟨rfl, hb6⟩
        have hX6 := hX5.below hb6
        refine hK.out _ _ ⟨hX6.1, hX6.2⟩ (fun hHeld6 => ?_)
        clear hK K
        refine wpAnyH_done (by kernel_rfl) ?_ _
        have B6 := Lib.hid (Below.then B5.out hb6)
        have HX6 := Lib.hid hX6
        have hcW := World.block_lt_of_cell? W _ HC0.out
        have hc6 := (B6.out.cell (p := ⟨w1.heap.size, 0, none⟩) hcW).trans HC0.out
        have hf6 := (B6.out.frozen (p := ⟨w1.heap.size, 0, none⟩) hcW).trans HF0.out
        have HS := Lib.hid (cnt_snoc xs pre x)
        have hbw : w.heap.size ≤ w1.heap.size := Nat.le_of_lt htb
        have BW6 := Lib.hid (Below.then HSS.out B6.out)
        clear hHeld hHeld5 hHeld6 hX5 hX6 hb5 hb6 ho5
        rcases qd : decide (xs = rnL xs (nI x)) with _ | _
        · rw [qd] at HS
          gi_wp2
          exact ⟨grown_below B6.out _, by rw [hc6, HS.out]; simp, hf6, HX6.out, HRR.out.below B6.out, BW6.out⟩
        · rw [qd] at HS
          have HCV := Lib.hid hc6
          generalize hcv : wrap64 ((cntL xs pre : Nat) : Int) = cv at *
          have HV := Lib.hid hcv
          clear hcv
          gi_wp2
          have hg := setCell_grown w6 ⟨w1.heap.size, 0, none⟩ (.int .i64 (wrap64 (cv + 1)))
          refine ⟨(grown_below B6.out (some w1.heap.size)).trans hg, ?_, by rw [World.frozen?_setCell]; exact hf6, HX6.out.kept hg (by intro e; injection e with e; have e : w.heap.size = w1.heap.size := e; omega), HR.out.below (BW6.out.setCell (p := ⟨w1.heap.size, 0, none⟩) hbw _), BW6.out.setCell (p := ⟨w1.heap.size, 0, none⟩) hbw _⟩
          rw [World.cell?_setCell_same _ _ _ HCV.out, HS.out, ← HV.out, wrap_wrap1]; simp
      case done =>
        rintro D W hD ⟨hc, hf, hx, hr, hb⟩ hK
        have HB := Lib.hid hb
        have HKD := Lib.hid hK
        have HQ : Hid (wrap64 ((cntL xs (ordL n) : Nat) : Int) = (cntL xs (ordL n) : Nat)) := by
          have h1 := cnt_le xs (ordL n)
          have h2 : (ordL n).length ≤ 720 := (show ∀ n, n < 7 → (ordL n).length ≤ 720 by decide +kernel) n (by omega)
          exact IntWalk.wrap64_in _ (by omega)
        have HC := Lib.hid hc
        clear hb hK hx hr
        rw [HQ.out] at hc
        go_wp2
        have HBF := Lib.hid (HB.out.trans (belowK_b (w := w) (Nat.le_refl _) W D _ (.deferred none) (by omega) HKD.out rfl rfl))
        refine ⟨by simp, .inl ⟨_, _, rfl, run_takeDeferred HKD.out, ?_⟩⟩
        exact ⟨_, results_tmp rfl _ _ _, by rw [HE.out]; rfl, HBF.out⟩
    · have e0 : symN s xs = 0 := by simp [symN, symB6, h6]
      rw [e0]
      have h7 : 7 ≤ s := by omega
      clear hsl
      have h7b : decide (6 < s) = true := decide_eq_true (by omega)
      go_enter Tryd.func18, Tryd.ntmps18
      go_wp2_with fail
      have b0 := below_alloc1 w (.cells #[.int .i64 s, .slice A xs.length c] 25)
      have x0 := TBox.new w s (.slice A xs.length c) 25
      generalize w.alloc (.cells #[.int .i64 s, .slice A xs.length c] 25) = w0 at *
      have HX0 := Lib.hid x0
      have HB0 := Lib.hid b0
      clear x0 b0
      have y0_0 := HX0.out.1
      have y1_0 := HX0.out.2
      go_wp2_with fail
      refine (implTourOk s _ xs _ (HR.out.below HB0.out)).mono ?_
      rintro e w1 ⟨rfl, hb⟩
      have HX1 := Lib.hid (HX0.out.below hb)
      have HB1 := Lib.hid (Below.then HB0.out hb)
      clear hb HX0 HB0 y0_0 y1_0
      have y0_1 := HX1.out.1
      have y1_1 := HX1.out.2
      rw [q0]
      go_wp2
      go_ret
      exact ⟨rfl, HB1.out⟩
end Go.Proofs.YthoodjjjklbggaaDoor

namespace Go.Proofs.YthoodjjjklbggaaDoor
open Go.RowKit Go.Sort
set_option maxRecDepth 100000
attribute [local go_sem] Oper.semAt_some
noncomputable def lnS (s : Int) (xs : List Int) : Int := if symB6 s xs = true then s else 0
noncomputable def lnL (s : Int) (xs : List Int) : List Int := if symB6 s xs = true then pickL xs (ordL xs.length) xs else []
theorem ln_no {s : Int} {xs : List Int} (h : symB6 s xs = false) : lnS s xs = 0 ∧ lnL s xs = [] := by simp [lnS, lnL, h]
theorem ln_yes {s : Int} {xs : List Int} (h : symB6 s xs = true) : lnS s xs = s ∧ lnL s xs = pickL xs (ordL xs.length) xs := by simp [lnS, lnL, h]
theorem pick_snoc (xs : List Int) (l : List (List Nat)) (ns : List Nat) (L : List Int) : pickL xs (l ++ [ns]) L = if codeN (rnL xs (nI ns)) < codeN (pickL xs l L) then rnL xs (nI ns) else pickL xs l L := by unfold pickL; rw [List.foldl_append]; rfl
theorem pick_tour {s : Int} {xs : List Int} (hp : tourP s xs) (l : List (List Nat)) (hl : ∀ ns ∈ l, ns ∈ ordL xs.length) : tourP s (pickL xs l xs) := by
  rcases (pick_least xs l xs).1 with h | ⟨ns, hns, h⟩
  · rw [h]; exact hp
  · rw [h]; exact rn_tour hp (perm_nI.2 (hl ns hns))
def BoxOT (w0 W : World) (g : Nat) : Prop := BoxF W g 0 (.slice none 0 0) ∧ w0.heap.size ≤ g
theorem BoxOT.below {w0 W W' : World} {g : Nat} (h : BoxOT w0 W g) (hb : Below W.heap.size W W') : BoxOT w0 W' g := ⟨BoxF.below h.1 hb, h.2⟩
theorem BoxOT.new {w0 : World} (W : World) (h : w0.heap.size ≤ W.heap.size) : BoxOT w0 (W.alloc (.cells #[.int .i64 0, .slice none 0 0] 25)) W.heap.size := ⟨BoxF.new W 0 (.slice none 0 0) 25, h⟩
def TrCut (w0 : World) (S : Int) (L : List Int) (p : Value) (wx : World) : Prop :=
  ∃ gB Y cy, p = .pointer (some ⟨gB, 0, none⟩) ∧ BoxF wx gB S (.slice Y L.length cy) ∧ Own wx w0.heap.size (.slice Y L.length cy) L ∧ ((Value.slice Y L.length cy).ownBlock = none ∨ (Value.slice Y L.length cy).ownBlock ≠ some gB) ∧ w0.heap.size ≤ gB ∧ Below w0.heap.size w0 wx
/-- between two rounds: the best tour so far in its box; its row is protected, or old -/
def LnI (w0 : World) (xs : List Int) (bb tb rb n B : Nat) (sl : Value) (done : List (List Nat)) (Pt : Nat → Prop) (W : World) : Prop :=
  ∃ Y cy, BoxF W bb n (.slice Y n cy) ∧ Own W w0.heap.size (.slice Y n cy) (pickL xs done xs) ∧ (∀ r, (Value.slice Y n cy).ownBlock = some r → r ≠ bb ∧ (r < B ∨ Pt r) ∧ r ≠ rb) ∧ TBox W tb n sl ∧ BoxF W rb 0 (.slice none 0 0) ∧ (∀ ns ∈ done, ns ∈ ordL n) ∧ Below w0.heap.size w0 W
theorem LnI.abp {w0 : World} {xs : List Int} {bb tb rb n B : Nat} {sl : Value} (hc : bb < B) (ht : tb < B) (hr0 : rb < B) (hw : w0.heap.size ≤ B) : AbP B (LnI w0 xs bb tb rb n B sl) := by
  intro s Pt W W' row h hg hr
  obtain ⟨Y, cy, h1, h2, h3, h4, h7, h5, h6⟩ := h
  refine ⟨Y, cy, h1.kept hg (fun e => by have := (hr _ e.symm).1; omega), h2.kept hg ?_, h3, h4.kept hg (fun e => by have := (hr _ e.symm).1; omega), h7.kept hg (fun e => by have := (hr _ e.symm).1; omega), h5, h6.grown hg h6.size (fun k e => Nat.le_trans hw (hr k e).1)⟩
  rcases e : (Value.slice Y n cy).ownBlock with _ | k
  · exact .inl rfl
  · right
    intro e2
    obtain ⟨q1, q2⟩ := hr k e2.symm
    rcases (h3 k e).2.1 with h | h
    · omega
    · exact q2 h
theorem own_put {W : World} {D base : Nat} {o o' : Obj} {v : Value} {xs : List Int} (hD : W.heap[D]? = some o) (ho : o.isCells = false) (h : Own W base v xs) : Own (W.putObj D o') base v xs := by
  refine ⟨h.1, ?_⟩
  rcases h.2 with h0 | ⟨g, cap, cur, hv, hg, hh, r⟩
  · exact .inl h0
  · exact .inr ⟨g, cap, cur, hv, hg, (KpC.of_put (cb := g + 1) o' hD ho).same _ _ (by omega) hh rfl, r⟩
theorem indices_ex (n : Nat) (hn : n ≤ 1000) (w : World) (h1 : 1 ≤ n) :
    Calls Tryd.prog 48 #[.int .i64 n] w fun e w' => ∃ g, e = .returned (.slice (some ⟨g, 0, none⟩) n n) ∧ Own w' w.heap.size (.slice (some ⟨g, 0, none⟩) n n) (idL n) ∧ Below w.heap.size w w' :=
  (indices_any n hn w h1).mono fun _ _ ⟨h1, h2, h3⟩ => ⟨_, h1, h2, h3⟩
set_option maxHeartbeats 8000000 in
theorem implLeast (s : Int) (sl : Value) (xs : List Int) (w : World) (h : Rd w sl xs) :
    Calls Tryd.prog 19 #[.agg #[.int .i64 s, sl]] w fun e w' => ∃ sl', e = .returned (.tuple #[.agg #[.int .i64 (lnS s xs), sl'], .bool (symB6 s xs)]) ∧ Own w' w.heap.size sl' (lnL s xs) ∧ Below w.heap.size w w' := by
  have HR := Lib.hid h
  obtain ⟨A, c, rfl, -, hcm, -⟩ := h
  unfold maxLen at hcm
  rcases q0 : tourB s xs with _ | _
  · have hE := ln_no (s := s) (xs := xs) (by simp [symB6, q0])
    rw [hE.1, hE.2, show symB6 s xs = false by simp [symB6, q0]]
    clear hE
    go_enter Tryd.func19, Tryd.ntmps19
    go_wp2_with fail
    have b0 := (below_alloc1 w (.cells #[.int .i64 s, .slice A xs.length c] 25)).alloc (by simp) (.cells #[.int .i64 0, .slice none 0 0] 25)
    have x0 := (TBox.new w s (.slice A xs.length c) 25).below (below_alloc1 _ (.cells #[.int .i64 0, .slice none 0 0] 25))
    have t0 := BoxF.new (w.alloc (.cells #[.int .i64 s, .slice A xs.length c] 25)) 0 (.slice none 0 0) 25
    simp only [World.size_alloc] at t0
    generalize (w.alloc (.cells #[.int .i64 s, .slice A xs.length c] 25)).alloc (.cells #[.int .i64 0, .slice none 0 0] 25) = w0 at *
    have HX0 := Lib.hid x0
    have HB0 := Lib.hid b0
    have HT0 := Lib.hid t0
    clear x0 b0 t0
    have y0_0 := HX0.out.1
    have y1_0 := HX0.out.2
    go_wp2_with fail
    refine (implTourOk s _ xs _ (HR.out.below HB0.out)).mono ?_
    rintro e w1 ⟨rfl, hb⟩
    have HX1 := Lib.hid (HX0.out.below hb)
    have HT1 := Lib.hid (HT0.out.below hb)
    have HB1 := Lib.hid (Below.then HB0.out hb)
    clear hb HX0 HT0 HB0 y0_0 y1_0
    have y0_1 := HX1.out.1
    have y1_1 := HX1.out.2
    rw [q0]
    have v0 := HT1.out.1.1
    have v1 := HT1.out.1.2
    have f0 := HT1.out.2 0
    have f1 := HT1.out.2 1
    have HBx := Lib.hid ((HB1.out.setCell (p := ⟨w.heap.size + 1, 0, none⟩) (by simp) (.int .i64 0)).setCell (p := ⟨w.heap.size + 1, 1, none⟩) (by simp) (.slice none 0 0))
    have R0 : Hid (((w1.setCell ⟨w.heap.size + 1, 0, none⟩ (.int .i64 0)).setCell ⟨w.heap.size + 1, 1, none⟩ (.slice none 0 0)).cell? ⟨w.heap.size + 1, 0, none⟩ = some (.int .i64 0)) := (World.cell?_setCell_other _ _ _ _ (by simp)).trans (World.cell?_setCell_same _ _ _ v0)
    have R1 : Hid (((w1.setCell ⟨w.heap.size + 1, 0, none⟩ (.int .i64 0)).setCell ⟨w.heap.size + 1, 1, none⟩ (.slice none 0 0)).cell? ⟨w.heap.size + 1, 1, none⟩ = some (.slice none 0 0)) := World.cell?_setCell_same _ _ _ ((World.cell?_setCell_other _ _ _ _ (by simp)).trans v1)
    go_wp2
    have r0 := R0.out
    have r1 := R1.out
    refine bodyPost_ret (v := .tuple #[.agg #[.int .i64 0, .slice none 0 0], .bool false]) (by simp only [results, Tryd.results19]; simp [go_sem, r0, r1]) rfl ⟨_, rfl, Own.nil_ _ _, HBx.out⟩
  · have hp := tourB_true.1 q0
    have hs := hp.1
    have hsl := hp.2.1
    have HP := Lib.hid hp
    have HID := Lib.hid (rn_id hp)
    clear hp
    by_cases h6 : s ≤ 6
    · have q6 : symB6 s xs = true := by simp [symB6, q0, h6]
      have HE := Lib.hid (ln_yes q6)
      rw [q6]
      clear q6
      generalize hln : xs.length = n at *
      obtain rfl : s = (n : Int) := by omega
      have HL := Lib.hid hln
      clear hln hsl
      have h6n : n ≤ 6 := by omega
      have h6b : decide ((6 : Int) < (n : Int)) = false := decide_eq_false (by omega)
      clear h6
      refine calls_of_wpM Tryd.func19 rfl ?_
      simp only [Tryd.ntmps19, List.size_toArray, List.length_cons, List.length_nil, Nat.reduceAdd, Nat.reduceSub, Array.replicate_succ, Array.replicate_zero, List.push_toArray, List.append_toArray, List.nil_append, List.cons_append]
      go_wp2_with fail
      have b0 := (below_alloc1 w (.cells #[.int .i64 n, .slice A n c] 25)).alloc (by simp) (.cells #[.int .i64 0, .slice none 0 0] 25)
      have x0 := (TBox.new w n (.slice A n c) 25).below (below_alloc1 _ (.cells #[.int .i64 0, .slice none 0 0] 25))
      have t0 := BoxF.new (w.alloc (.cells #[.int .i64 n, .slice A n c] 25)) 0 (.slice none 0 0) 25
      simp only [World.size_alloc] at t0
      generalize (w.alloc (.cells #[.int .i64 n, .slice A n c] 25)).alloc (.cells #[.int .i64 0, .slice none 0 0] 25) = w0 at *
      have HX0 := Lib.hid x0
      have HB0 := Lib.hid b0
      have HT0 := Lib.hid t0
      clear x0 b0 t0
      have y0_0 := HX0.out.1
      have y1_0 := HX0.out.2
      go_wp2_with fail
      refine (implTourOk n _ xs _ (HR.out.below HB0.out)).mono ?_
      rintro e w1 ⟨rfl, hb⟩
      have HX1 := Lib.hid (HX0.out.below hb)
      have HT1 := Lib.hid (HT0.out.below hb)
      have HB1 := Lib.hid (Below.then HB0.out hb)
      clear hb HX0 HT0 HB0 y0_0 y1_0
      have y0_1 := HX1.out.1
      have y1_1 := HX1.out.2
      rw [q0]
      go_wp2_with fail
      have HKP : Hid (∀ W, Below w1.heap.size w1 W → W.cell? ⟨w.heap.size, 0, none⟩ = some (.int .i64 n) ∧ W.cell? ⟨w.heap.size, 1, none⟩ = some (.slice A n c)) := fun W hb => ⟨(HX1.out.below hb).1, (HX1.out.below hb).2⟩
      have BB0 : Below w1.heap.size w1 w1.drew := (Below.refl _ _).drew
      have BB0B : Below w1.heap.size w1 (w1.drew.alloc (.cells #[.int .i64 0, .slice none 0 0] 25)) := BB0.alloc BB0.size _
      clear y0_1 y1_1
      go_cut [4] from 7 to 35 (fun s4 wx => TrCut w1 n (rnL xs (idL n)) s4 wx)
      case first =>
        go_region_held3 (fun W => W.cell? ⟨w.heap.size, 0, none⟩ = some (.int .i64 n) ∧ W.cell? ⟨w.heap.size, 1, none⟩ = some (.slice A n c))
          (first | exact HKP.out _ BB0 | exact HKP.out _ BB0B | exact HKP.out _ BB1 | exact HKP.out _ (BB1.alloc BB1.size _) | exact HKP.out _ BB2 | exact HKP.out _ (BB2.alloc BB2.size _) | exact HKP.out _ BBS)
          (first
            | (go_at_call 48; refine (indices_ex n (by omega) w1.drew (by omega)).mono ?_; rintro e v1 ⟨gi, rfl, oo1, hb⟩; have BB1 := Below.then BB0 hb; (try have HX1' := HX0'.below hb); clear hb)
            | (go_at_call 48; refine (indices_ex n (by omega) (w1.drew.alloc (.cells #[.int .i64 0, .slice none 0 0] 25)) (by omega)).mono ?_; rintro e v1 ⟨gi, rfl, oo1, hb⟩; have BB1 := Below.then BB0B hb; have HX1' := (show BoxOT w1 (w1.drew.alloc (.cells #[.int .i64 0, .slice none 0 0] 25)) w1.heap.size from BoxOT.new w1.drew BB0.size).below hb; clear hb)
            | (go_at_call 32; refine (renamed_any n (.slice A n c) xs (idL n) _ v1 (HR.out.below (Below.then HB1.out BB1)) HP.out oo1.rd (by rw [HL.out]; exact id_perm n)).mono ?_; rintro e v2 ⟨sl2, rfl, hoy, -, hb⟩; obtain ⟨Z2, cz2, rfl, -, -, -⟩ := hoy.form; have BB2 := Below.then BB1 hb; (try have HX2' := HX1'.below hb); have OY := hoy.mono BB1.size; (try have NB := own_ne (fun k hk => (hoy.lt k hk).1) HX1'.1.gt); (try have BBS := (BB2.setCell (p := ⟨_, 0, none⟩) HX2'.2 (.int .i64 n)).setCell (p := ⟨_, 1, none⟩) HX2'.2 (.slice Z2 (rnL xs (idL n)).length cz2)); (try have v0 := HX2'.1.1.1); (try have v1 := HX2'.1.1.2); (try have f0 := HX2'.1.2 0); (try have f1 := HX2'.1.2 1); clear hb hoy)
            | (go_at_call 32; refine (renamed_any n (.slice A n c) xs (idL n) _ (v1.alloc (.cells #[.int .i64 0, .slice none 0 0] 25)) (HR.out.below (Below.then HB1.out (BB1.alloc BB1.size _))) HP.out (Own.alloc oo1 _).rd (by rw [HL.out]; exact id_perm n)).mono ?_; rintro e v2 ⟨sl2, rfl, hoy, -, hb⟩; obtain ⟨Z2, cz2, rfl, -, -, -⟩ := hoy.form; have BB2 := Below.then (BB1.alloc BB1.size _) hb; have HX2' := (BoxOT.new (w0 := w1) v1 BB1.size).below hb; have OY := hoy.mono (BB1.alloc BB1.size (.cells #[.int .i64 0, .slice none 0 0] 25)).size; have NB := own_ne (fun k hk => (hoy.lt k hk).1) (BoxOT.new (w0 := w1) v1 BB1.size).1.gt; (try have BBS := (BB2.setCell (p := ⟨_, 0, none⟩) HX2'.2 (.int .i64 n)).setCell (p := ⟨_, 1, none⟩) HX2'.2 (.slice Z2 (rnL xs (idL n)).length cz2)); (try have v0 := HX2'.1.1.1); (try have v1 := HX2'.1.1.2); (try have f0 := HX2'.1.2 0); (try have f1 := HX2'.1.2 1); clear hb hoy))
        all_goals first
          | (go_wp2_with fail; go_meet; exact ⟨_, _, _, rfl, HX2'.1.set01 n _, (OY.kept (setCell_grown _ _ _) NB).kept (setCell_grown _ _ _) NB, NB, HX2'.2, BBS⟩)
          | (go_wp2_with fail; go_meet; exact ⟨_, _, _, rfl, BoxF.new v2 n _ _, Own.alloc OY _, box_new_of (fun k hk => (OY.lt k hk).2), BB2.size, BB2.alloc BB2.size _⟩)
      case rest =>
        obtain ⟨bb, Y, cy, rfl, hbx, hob, hnb, hbg, hbw⟩ := hcut
        rw [HID.out] at hbx hob hnb
        rw [HL.out] at hbx hob hnb
        have HX2 := Lib.hid (HX1.out.below hbw)
        have HT2 := Lib.hid (HT1.out.below hbw)
        have HB2 := Lib.hid (Below.then HB1.out hbw)
        have HBX := Lib.hid hbx
        have HOB1 := Lib.hid hob
        have HOB := Lib.hid (hob.mono HB1.out.size)
        have HNB := Lib.hid hnb
        have htb := HT1.out.gt
        have hbbw := hbx.gt
        have HW1 := Lib.hid hbw
        clear hbx hob hnb hbw HX1 HB1 HT1 HKP BB0 BB0B HID
        have y0_2 := HX2.out.1
        go_wp2_with fail
        refine (indices_ex n (by omega) wc (by omega)).mono ?_
        rintro e w3 ⟨gi, rfl, ho3, hb3⟩
        have HO3 := Lib.hid ho3
        have HB3 := Lib.hid hb3
        clear ho3 hb3 y0_2
        go_wp2_with fail
        refine (orders_any _ n n w3).mono ?_
        rintro e w4 ⟨rfl, hw4⟩
        have HW4 := Lib.hid hw4
        clear hw4
        go_wp2_with fail
        have s3 := HO3.out.lt gi rfl
        have h4l : w3.heap.size < w4.heap.size := by rw [HW4.out]; simp
        have b34 : Below w3.heap.size w3 w4 := by rw [HW4.out]; exact below_alloc1 _ _
        have b24 := Below.then HB3.out b34
        have HB4 := Lib.hid (Below.then HB2.out b24)
        have HX4 := Lib.hid (HX2.out.below b24)
        have HT4 := Lib.hid (HT2.out.below b24)
        have HBX4 := Lib.hid (HBX.out.below b24)
        have HOB4 := Lib.hid (HOB.out.below b24)
        have hs24 := b24.size
        have SEQ := orders_allP (n := n) (by omega) w3.heap.size gi bb w4 (by omega) (by omega) (by omega) ⟨by omega, by omega⟩ (by rw [HW4.out]; exact cell_new1 _ _ _) (fun k hk => by
          have hx := ((HO3.out.below b34).at1 (show (idL n).length = n by simp [idL]) (by omega)).1 k hk
          rw [show (idL n).getD k 0 = ((k : Nat) : Int) from by simp [idL, hk]] at hx
          exact hx)
        have hI0 : LnI w xs bb w.heap.size (w.heap.size + 1) n w4.heap.size (.slice A n c) [] (fun _ => False) w4 := ⟨Y, cy, HBX4.out, HOB4.out, fun r hr => ⟨fun e => (by rw [e] at hr; rcases HNB.out with h | h; (rw [h] at hr; cases hr); exact h hr), .inl (HOB4.out.lt r hr).2, fun e => by rw [e] at hr; have := (HOB1.out.lt _ hr).1; omega⟩, HX4.out, HT4.out, (fun _ h => by cases h), HB4.out⟩
        refine wp_rangeFunc_allP (gf := 73) (lb := #[.pointer (some ⟨w3.heap.size, 0, none⟩)]) rfl (fun _ _ => by kernel_rfl) SEQ (Below.refl _ _) (by omega) rfl (fun W l o o' x v h1 h2 h3 => rd_put h1 h2 h3)
          (LnI w xs bb w.heap.size (w.heap.size + 1) n w4.heap.size (.slice A n c)) (LnI.abp (by omega) (by omega) (by omega) (by have := HB4.out.size; omega)) hI0 ?a1 ?assign ?body ?done
        case assign =>
          intro l v W K hK
          gi_wp2
          exact hK
        case body =>
          rintro l pre Pt x v W ⟨Yb, cyb, hbx, hob, hnb, htx, hrb, hpre, hbw⟩ hpt hen hmem hsz
          have HBb := Lib.hid hbx
          have HOb := Lib.hid hob
          have HNb := Lib.hid hnb
          have HXb := Lib.hid htx
          have HRB := Lib.hid hrb
          clear hrb
          have HPre := Lib.hid hpre
          have HBw := Lib.hid hbw
          have HRX := Lib.hid hen
          have HPX := Lib.hid (perm_nI.2 hmem)
          clear hbx hob hnb hpre hen
          have y0 := htx.1
          have y1 := htx.2
          clear htx
          gi_wp2_with fail
          refine ⟨trivial, rfl, ?_⟩
          refine (CallsIn.inRound l (callsIn_wide.2 (renamed_any n (.slice A n c) xs (nI x) v W (HR.out.below HBw.out) HP.out HRX.out (by rw [HL.out]; exact HPX.out)))).mono ?_
          rintro e w5 ⟨sl5, rfl, ho5, -, hb5⟩
          obtain ⟨Z, cz, rfl, -, -, -⟩ := ho5.form
          have hrl := rn_len HL.out HPX.out
          have HTR := Lib.hid (rn_tour HP.out (by rw [HL.out]; exact HPX.out : PermP xs.length (nI x)))
          have HTB := Lib.hid (pick_tour HP.out pre (by rw [HL.out]; exact HPre.out))
          rw [hrl] at ho5 ⊢
          have HRL := Lib.hid hrl
          clear hrl
          have b56 := below_alloc1 w5 (.cells #[.int .i64 n, .slice Z n cz] 25)
          have B6 := Lib.hid (Below.then hb5 b56)
          have HU6 := Lib.hid (TBox.new w5 n (.slice Z n cz) 25)
          have HOU6 := Lib.hid (ho5.below b56)
          have hu6 : w5.heap.size < (w5.alloc (.cells #[.int .i64 n, .slice Z n cz] 25)).heap.size := by simp
          have hw5 := hb5.size
          clear b56 ho5 hb5 y0 y1
          gi_wp2_with fail
          generalize w5.alloc (.cells #[.int .i64 n, .slice Z n cz] 25) = w6 at *
          have HB6 := Lib.hid (HBb.out.below B6.out)
          have HOB6 := Lib.hid (HOb.out.below B6.out)
          have k1 := quiet_below (w := w6) (fun W' hW => code_any n (.slice Z n cz) (rnL xs (nI x)) W' (HOU6.out.rd.below hW) HTR.out h6n)
          have k2 := quiet_below (w := w6) (fun W' hW => code_any n (.slice Yb n cyb) (pickL xs pre xs) W' (HOB6.out.rd.below hW) HTB.out h6n)
          have z0 := cell_regrown HU6.out.1
          have z1 := cell_regrown HU6.out.2
          have z2 := cell_regrown HB6.out.1.1
          have z3 := cell_regrown HB6.out.1.2
          refine round_region_below (noDefer_spec (by kernel_rfl)) (fun ⟨_, _, h⟩ => h) (by kernel_rfl) (by kernel_rfl) ?_
          repeat (go_big_quiet_step (first | (with_reducible exact k1 _ _) | (with_reducible exact k2 _ _)))
          refine wpQuiet_nil ?_
          intro wq hbq
          clear k1 k2 z0 z1 z2 z3
          have HBq := Lib.hid (HB6.out.below hbq)
          have HOBq := Lib.hid (HOB6.out.below hbq)
          have HUq := Lib.hid (HU6.out.below hbq)
          have HOUq := Lib.hid (HOU6.out.below hbq)
          have Bq := Lib.hid (Below.then B6.out hbq)
          have HXq := Lib.hid (HXb.out.below Bq.out)
          have HRBq := Lib.hid (HRB.out.below Bq.out)
          have BWq := Lib.hid (Below.then HBw.out Bq.out)
          have hsq := hbq.size
          have HPS := Lib.hid (pick_snoc xs pre x xs)
          have HPRE : Hid (∀ ns ∈ pre ++ [x], ns ∈ ordL n) := fun ns h => by
            rw [List.mem_append, List.mem_singleton] at h
            rcases h with h | rfl
            · exact HPre.out ns h
            · exact hmem
          clear hbq
          by_cases hlt : codeN (rnL xs (nI x)) < codeN (pickL xs pre xs)
          · have hd : decide (codeN (rnL xs (nI x)) < codeN (pickL xs pre xs)) = true := decide_eq_true hlt
            rw [if_pos hlt] at HPS
            have x0 := HUq.out.1
            have x1 := HUq.out.2
            have v0 := HBq.out.1.1
            have v1 := HBq.out.1.2
            have f0 := HBq.out.2 0
            have f1 := HBq.out.2 1
            gi_wp2
            have g1 := setCell_grown wq ⟨bb, 0, none⟩ (.int .i64 n)
            have g2 := setCell_grown (wq.setCell ⟨bb, 0, none⟩ (.int .i64 n)) ⟨bb, 1, none⟩ (.slice Z n cz)
            have hblk : ∀ r, (Value.slice Z n cz).ownBlock = some r → W.heap.size ≤ r ∧ r < wq.heap.size := fun r hr => ⟨(HOUq.out.lt r hr).1, (HOUq.out.lt r hr).2⟩
            have hne : (Value.slice Z n cz).ownBlock = none ∨ (Value.slice Z n cz).ownBlock ≠ some bb := own_ne (fun k hk => (hblk k hk).1) (by omega)
            refine ⟨((grown_below Bq.out (some bb)).trans g1).trans g2, fun r => (Value.slice Z n cz).ownBlock = some r, ⟨Z, cz, HBq.out.set01 n _, ?_, fun r hr => ⟨fun e => (by have := (hblk r hr).1; omega), .inr hr, fun e => (by have := (hblk r hr).1; omega)⟩, (HXq.out.kept g1 (fun e => by injection e with e; have e : w.heap.size = bb := e; omega)).kept g2 (fun e => by injection e with e; have e : w.heap.size = bb := e; omega), (HRBq.out.kept g1 (fun e => by injection e with e; have e : w.heap.size + 1 = bb := e; omega)).kept g2 (fun e => by injection e with e; have e : w.heap.size + 1 = bb := e; omega), HPRE.out, (BWq.out.setCell (p := ⟨bb, 0, none⟩) (by show w.heap.size ≤ bb; omega) _).setCell (p := ⟨bb, 1, none⟩) (by show w.heap.size ≤ bb; omega) _⟩, fun r hr => ⟨by simpa using (hblk r hr).2, .inr (hblk r hr).1⟩⟩
            rw [HPS.out]
            exact ((HOUq.out.mono HBw.out.size).kept g1 hne).kept g2 hne
          · have hd : decide (codeN (rnL xs (nI x)) < codeN (pickL xs pre xs)) = false := decide_eq_false hlt
            rw [if_neg hlt] at HPS
            gi_wp2
            exact ⟨grown_below Bq.out _, Pt, ⟨Yb, cyb, HBq.out, by rw [HPS.out]; exact HOBq.out, HNb.out, HXq.out, HRBq.out, HPRE.out, BWq.out⟩, fun r hr => ⟨Nat.lt_of_lt_of_le (hpt r hr).1 Bq.out.size, .inl hr⟩⟩
        case done =>
          rintro D Pt W hD ⟨Yb, cyb, hbx, hob, hnb, htx, hrb, hpre, hbw⟩ hK
          have x0 := hbx.1.1
          have x1 := hbx.1.2
          have v0 := hrb.1.1
          have v1 := hrb.1.2
          have f0 := hrb.2 0
          have f1 := hrb.2 1
          have HX := Lib.hid (hrb.set01 n (.slice Yb n cyb))
          have g1 := setCell_grown W ⟨w.heap.size + 1, 0, none⟩ (.int .i64 n)
          have g2 := setCell_grown (W.setCell ⟨w.heap.size + 1, 0, none⟩ (.int .i64 n)) ⟨w.heap.size + 1, 1, none⟩ (.slice Yb n cyb)
          have hD2 := World.block_lt_of_cell? _ _ HT4.out.1.1
          have HKD2 : Hid (((W.setCell ⟨w.heap.size + 1, 0, none⟩ (.int .i64 n)).setCell ⟨w.heap.size + 1, 1, none⟩ (.slice Yb n cyb)).heap[D]? = some (.deferred (some []))) := by
            unfold Hid
            have hDW := (Array.getElem?_eq_some_iff.1 hK).1
            have hne : some D ≠ some (w.heap.size + 1) := fun e => by injection e with e; have : w.heap.size + 1 < w4.heap.size := hD2; omega
            exact ((g2.block D (by simp; exact hDW) hne).trans (g1.block D hDW hne)).trans hK
          have hnr : (Value.slice Yb n cyb).ownBlock = none ∨ (Value.slice Yb n cyb).ownBlock ≠ some (w.heap.size + 1) := by
            rcases e : (Value.slice Yb n cyb).ownBlock with _ | k
            · exact .inl rfl
            · exact .inr (fun e2 => by injection e2 with e2; exact (hnb k e).2.2 e2)
          have HO2 := Lib.hid ((hob.kept g1 hnr).kept g2 hnr)
          have HB2' := Lib.hid ((hbw.setCell (p := ⟨w.heap.size + 1, 0, none⟩) (show w.heap.size ≤ w.heap.size + 1 by omega) (.int .i64 n)).setCell (p := ⟨w.heap.size + 1, 1, none⟩) (show w.heap.size ≤ w.heap.size + 1 by omega) (.slice Yb n cyb))
          clear hbx hob hnb hbw hK hpre hrb htx g1 g2 hnr
          go_wp2
          have HBF := Lib.hid (HB2'.out.trans (belowK_b (w := w) (Nat.le_refl _) ((W.setCell ⟨w.heap.size + 1, 0, none⟩ (.int .i64 n)).setCell ⟨w.heap.size + 1, 1, none⟩ (.slice Yb n cyb)) D _ (.deferred none) (by have := HB4.out.size; omega) HKD2.out rfl rfl))
          have HOF := Lib.hid (own_put HKD2.out rfl HO2.out : Own (((W.setCell ⟨w.heap.size + 1, 0, none⟩ (.int .i64 n)).setCell ⟨w.heap.size + 1, 1, none⟩ (.slice Yb n cyb)).putObj D (.deferred none)) _ _ _)
          have r0 := (KpC.of_put (cb := w.heap.size) (.deferred none) HKD2.out rfl).cell (p := ⟨w.heap.size + 1, 0, none⟩) (by show w.heap.size + 1 ≠ w.heap.size; omega) HX.out.1.1
          have r1 := (KpC.of_put (cb := w.heap.size) (.deferred none) HKD2.out rfl).cell (p := ⟨w.heap.size + 1, 1, none⟩) (by show w.heap.size + 1 ≠ w.heap.size; omega) HX.out.1.2
          refine ⟨by simp, .inl ⟨_, _, rfl, run_takeDeferred HKD2.out, ?_⟩⟩
          refine ⟨.tuple #[.agg #[.int .i64 n, .slice Yb n cyb], .bool true], by simp only [results, Tryd.results19]; simp [go_sem, r0, r1], .slice Yb n cyb, by rw [HE.out.1], ?_, HBF.out⟩
          rw [HE.out.2]
          exact HOF.out
    · have q6 : symB6 s xs = false := by simp [symB6, h6]
      have hE := ln_no q6
      rw [hE.1, hE.2, q6]
      clear hE q6 HID hsl
      have h7 : 7 ≤ s := by omega
      have h7b : decide (6 < s) = true := decide_eq_true (by omega)
      go_enter Tryd.func19, Tryd.ntmps19
      go_wp2_with fail
      have b0 := (below_alloc1 w (.cells #[.int .i64 s, .slice A xs.length c] 25)).alloc (by simp) (.cells #[.int .i64 0, .slice none 0 0] 25)
      have x0 := (TBox.new w s (.slice A xs.length c) 25).below (below_alloc1 _ (.cells #[.int .i64 0, .slice none 0 0] 25))
      have t0 := BoxF.new (w.alloc (.cells #[.int .i64 s, .slice A xs.length c] 25)) 0 (.slice none 0 0) 25
      simp only [World.size_alloc] at t0
      generalize (w.alloc (.cells #[.int .i64 s, .slice A xs.length c] 25)).alloc (.cells #[.int .i64 0, .slice none 0 0] 25) = w0 at *
      have HX0 := Lib.hid x0
      have HB0 := Lib.hid b0
      have HT0 := Lib.hid t0
      clear x0 b0 t0
      have y0_0 := HX0.out.1
      have y1_0 := HX0.out.2
      go_wp2_with fail
      refine (implTourOk s _ xs _ (HR.out.below HB0.out)).mono ?_
      rintro e w1 ⟨rfl, hb⟩
      have HX1 := Lib.hid (HX0.out.below hb)
      have HT1 := Lib.hid (HT0.out.below hb)
      have HB1 := Lib.hid (Below.then HB0.out hb)
      clear hb HX0 HT0 HB0 y0_0 y1_0
      have y0_1 := HX1.out.1
      have y1_1 := HX1.out.2
      rw [q0]
      have v0 := HT1.out.1.1
      have v1 := HT1.out.1.2
      have f0 := HT1.out.2 0
      have f1 := HT1.out.2 1
      have HBx := Lib.hid ((HB1.out.setCell (p := ⟨w.heap.size + 1, 0, none⟩) (by simp) (.int .i64 0)).setCell (p := ⟨w.heap.size + 1, 1, none⟩) (by simp) (.slice none 0 0))
      have R0 : Hid (((w1.setCell ⟨w.heap.size + 1, 0, none⟩ (.int .i64 0)).setCell ⟨w.heap.size + 1, 1, none⟩ (.slice none 0 0)).cell? ⟨w.heap.size + 1, 0, none⟩ = some (.int .i64 0)) := (World.cell?_setCell_other _ _ _ _ (by simp)).trans (World.cell?_setCell_same _ _ _ v0)
      have R1 : Hid (((w1.setCell ⟨w.heap.size + 1, 0, none⟩ (.int .i64 0)).setCell ⟨w.heap.size + 1, 1, none⟩ (.slice none 0 0)).cell? ⟨w.heap.size + 1, 1, none⟩ = some (.slice none 0 0)) := World.cell?_setCell_same _ _ _ ((World.cell?_setCell_other _ _ _ _ (by simp)).trans v1)
      go_wp2
      have r0 := R0.out
      have r1 := R1.out
      refine bodyPost_ret (v := .tuple #[.agg #[.int .i64 0, .slice none 0 0], .bool false]) (by simp only [results, Tryd.results19]; simp [go_sem, r0, r1]) rfl ⟨_, rfl, Own.nil_ _ _, HBx.out⟩
end Go.Proofs.YthoodjjjklbggaaDoor

namespace Go.Proofs.YthoodjjjklbggaaDoor
open Go.RowKit Go.Sort
set_option maxRecDepth 100000
theorem fact_le : ∀ n, n ≤ 6 → factN n ≤ 720 := by decide
theorem turnL_nI (n : Nat) : turnL n n = nI (turnN n) := by
  unfold turnL nI turnN
  rw [List.map_map]
  refine List.map_congr_left fun a _ => ?_
  show ((a : Int) + 1) % n = (((a + 1) % n : Nat) : Int)
  simp
theorem step_appendNI {ops : Array Oper} {o : Oper} {a : Act} {K : Act → World → Prop} {Q : Exit → Act → World → Prop} {E : Prop} (w : World) (hgd : o.guard = none) (s x : Operand)
    (ho : o.op = .call { callee := .builtin .append, args := #[s, x], argTypes := #[23, 23] })
    (base : Nat) (v : Value) (xs ys : List Int) (m : Nat) (hm : ys.length = m) (ad : Addr) (c : Nat) (hs : a.eval s = v) (hown : Own w base v xs) (hx : a.eval x = .slice (some ad) m c) (hc : ∀ k, k < m → w.cell? (ad.add k) = some (.int .i64 (ys.getD k 0)))
    (hlen : xs.length + m ≤ 1099511627776) (hbase : base ≤ w.heap.size)
    (h : ∀ v' w', Own w' base v' (xs ++ ys) → w.grownBy w' v.ownBlock → K (a.put o.dst v') w') :
    if Region.wanted o (yielded ops a.tmps) = true then Oper.wp Tryd.prog o a w K Q else E := by
  subst hm
  have hw : Region.wanted o (yielded ops a.tmps) = true := by simp [Region.wanted, hgd]
  rw [if_pos hw]
  obtain ⟨i0, hi, hz0, hz1, hz2⟩ := info_parts i64_info
  have hnews : ∀ j u, (ys.map (Value.int .i64))[j]? = some u → w.cell? (ad.add j) = some u := by
    intro j u hj
    have hjl : j < ys.length := by simpa using (List.getElem?_eq_some_iff.1 hj).1
    rw [hc j hjl]
    simp [hjl] at hj
    simp [hjl, hj]
  obtain ⟨v', w', hr, h2, h3, -, -⟩ := run_append_own_at (P := Tryd.prog) w base 23 o.type 3 i0 (.int .i64 0) 1 8 Tryd.underlying23 hi hz0 hz1 hz2 rfl (by decide) v xs.length (xs.map (Value.int .i64)) hown ad ys.length c (ys.map (Value.int .i64)) (by simp) hnews (by intro u hu; simp at hu; obtain ⟨y, -, rfl⟩ := hu; rfl) (by unfold maxLen; omega) (by omega) hbase
  unfold Oper.wp execOp
  simp only [ho, resolve, invoke, builtin, Sem.run_bind, Sem.run_pure, Result.andThen_ok, List.map_toArray, List.map_cons, List.map_nil, hs, hx, hr]
  exact h v' w' (by unfold Own; rw [List.length_append, List.map_append]; exact h2) h3
theorem apart_symmN {v u : Value} (h : v.ownBlock = none ∨ v.ownBlock ≠ u.ownBlock) : u.ownBlock = none ∨ u.ownBlock ≠ v.ownBlock := by
  rcases e : u.ownBlock with _ | g
  · exact .inl rfl
  · right
    rcases h with h | h
    · rw [h]; simp
    · rw [e] at h; exact Ne.symm h
end Go.Proofs.YthoodjjjklbggaaDoor

namespace Go.Proofs.YthoodjjjklbggaaDoor
open Go.RowKit Go.Sort
set_option maxRecDepth 100000
/-- two runs of the code side by side: behind a first difference -/
theorem code_first {xs ys : List Int} {n a b c : Nat} (hb : b < n) (ha : a < n)
    (hx : cdAll xs n (n - (a + 1)) (a + 1) (cdRow xs a (n - b) b c) = codeN xs) (hy : cdAll ys n (n - (a + 1)) (a + 1) (cdRow ys a (n - b) b c) = codeN ys) (hd : bt xs a b ≠ bt ys a b) : decide (codeN xs < codeN ys) = bt ys a b := by
  have e : n - b = (n - (b + 1)) + 1 := by omega
  rw [e] at hx hy
  have ex : cdRow xs a (n - (b + 1) + 1) b c = cdRow xs a (n - (b + 1)) (b + 1) (2 * c + (bt xs a b).toNat) := rfl
  have ey : cdRow ys a (n - (b + 1) + 1) b c = cdRow ys a (n - (b + 1)) (b + 1) (2 * c + (bt ys a b).toNat) := rfl
  rw [ex] at hx
  rw [ey] at hy
  rcases h1 : bt xs a b with _ | _ <;> rcases h2 : bt ys a b with _ | _
  · rw [h1, h2] at hd; exact absurd rfl hd
  · rw [h1] at hx; rw [h2] at hy
    rw [← hx, ← hy]
    exact decide_eq_true (cdAll_lt xs ys n (cdRow_lt xs ys a (by simp)))
  · rw [h1] at hx; rw [h2] at hy
    rw [← hx, ← hy]
    exact decide_eq_false (Nat.not_lt.2 (Nat.le_of_lt (cdAll_lt ys xs n (cdRow_lt ys xs a (by simp)))))
  · rw [h1, h2] at hd; exact absurd rfl hd
end Go.Proofs.YthoodjjjklbggaaDoor

namespace Go.Proofs.YthoodjjjklbggaaDoor
open Go.RowKit Go.Sort
set_option maxRecDepth 100000
theorem names_len (n : Nat) : (namesL n).length = factN n := by simp [namesL]
theorem names_at {n k : Nat} (h : k < factN n) : (namesL n).take (k + 1) = (namesL n).take k ++ [nameAt n k (turnN n)] := by
  rw [List.take_succ_eq_append_getElem (by rw [names_len]; exact h)]
  simp [namesL]
theorem names_mem {n k : Nat} (hn : n ≤ 6) (h : k < factN n) : nameAt n k (turnN n) ∈ ordL n := by
  rw [← (names_perm hn).mem_iff]
  exact List.mem_map.2 ⟨k, List.mem_range.2 h, rfl⟩
theorem cnt_perm (xs : List Int) {n : Nat} (hn : n ≤ 6) : cntL xs (namesL n) = cntL xs (ordL n) := ((names_perm hn).filter _).length_eq
theorem fact_pos (n : Nat) : 0 < factN n := by
  induction n with
  | zero => decide
  | succ n ih => exact Nat.mul_pos ih (Nat.succ_pos n)
end Go.Proofs.YthoodjjjklbggaaDoor

namespace Go.Proofs.YthoodjjjklbggaaDoor
open Go.RowKit Go.Sort
set_option maxRecDepth 100000
theorem pick_perm {n : Nat} {xs : List Int} (hp : tourP n xs) (hn : xs.length = n) (h6 : n ≤ 6) : pickL xs (namesL n) xs = pickL xs (ordL n) xs := by
  subst hn
  exact least_unique hp (pick_is hp fun ns => (names_perm h6).mem_iff) (pick_is hp fun _ => Iff.rfl)
def LnW (w0 : World) (xs : List Int) (bb tb rb n : Nat) (sl : Value) (done : List (List Nat)) (W : World) : Prop :=
  ∃ Y cy, BoxF W bb n (.slice Y n cy) ∧ Own W w0.heap.size (.slice Y n cy) (pickL xs done xs) ∧ (∀ r, (Value.slice Y n cy).ownBlock = some r → r ≠ bb ∧ r ≠ rb) ∧ TBox W tb n sl ∧ BoxF W rb 0 (.slice none 0 0) ∧ Below w0.heap.size w0 W
theorem nb_of {v : Value} {bb : Nat} (h : ∀ r, v.ownBlock = some r → r ≠ bb) : v.ownBlock = none ∨ v.ownBlock ≠ some bb := by
  rcases e : v.ownBlock with _ | k
  · exact .inl rfl
  · exact .inr (fun e2 => by injection e2 with e2; exact h k e e2)
end Go.Proofs.YthoodjjjklbggaaDoor

namespace Go.Proofs.YthoodjjjklbggaaDoor
open Go.RowKit Go.Sort
theorem lnL_is {s : Int} {xs : List Int} (h : symB6 s xs = true) : tourP s xs ∧ s ≤ 6 ∧ isLeast xs (lnL s xs) := by
  have h2 : tourB s xs = true ∧ s ≤ 6 := by simpa [symB6] using h
  have hp := tourB_true.1 h2.1
  refine ⟨hp, h2.2, ?_⟩
  rw [(ln_yes h).2]
  exact pick_is hp fun _ => Iff.rfl
theorem lnL_size {s : Int} {xs : List Int} (h : symB6 s xs = true) : ((lnL s xs).length : Int) = s := by
  obtain ⟨hp, -, ⟨ns, hP, e⟩, -⟩ := lnL_is h
  rw [e, rn_len rfl hP]
  exact hp.2.1
theorem lnL_len (s : Int) (xs : List Int) : (lnL s xs).length ≤ 8 := by
  rcases h : symB6 s xs with _ | _
  · rw [(ln_no h).2]; simp
  · have h1 := lnL_size h
    have h2 := (lnL_is h).2.1
    omega
end Go.Proofs.YthoodjjjklbggaaDoor

namespace Go.Proofs.YthoodjjjklbggaaDoor
open Go.RowKit Go.Sort
set_option maxRecDepth 100000
noncomputable def likeB (s : Int) (xs : List Int) (t : Int) (ys : List Int) : Bool := symB6 s xs && (symB6 t ys && (decide (s = t) && decide (lnL s xs = lnL t ys)))
set_option maxHeartbeats 1000000 in
theorem same_diff (n m : Nat) (A : Option Addr) (la c : Nat) (B : Option Addr) (lb d : Nat) (w : World) (h : n ≠ m) :
    Calls Tryd.prog 31 #[.agg #[.int .i64 n, .slice A la c], .agg #[.int .i64 m, .slice B lb d]] w fun e w' => e = .returned (.bool false) ∧ Below w.heap.size w w' := by
  have hne : (n == m) = false := by simpa using h
  have hne2 : (((n : Nat) : Int) == ((m : Nat) : Int)) = false := by simp; omega
  have b3 := (below_alloc1 w (.cells #[.int .i64 n, .slice A la c] 25)).alloc (by simp) (.cells #[.int .i64 m, .slice B lb d] 25)
  go_enter Tryd.func31, Tryd.ntmps31
  go_wp2
  go_ret
  exact ⟨rfl, b3⟩
set_option maxHeartbeats 4000000 in
theorem implLike (s : Int) (sl : Value) (xs : List Int) (t : Int) (tl : Value) (ys : List Int) (w : World) (h : Rd w sl xs) (h2 : Rd w tl ys) :
    Calls Tryd.prog 22 #[.agg #[.int .i64 s, sl], .agg #[.int .i64 t, tl]] w fun e w' => e = .returned (.bool (likeB s xs t ys)) ∧ Below w.heap.size w w' := by
  have HR := Lib.hid h
  have HS := Lib.hid h2
  obtain ⟨A, c, rfl, -, hcm, -⟩ := h
  obtain ⟨A2, c2, rfl, -, hcm2, -⟩ := h2
  unfold maxLen at hcm hcm2
  have x3 := (TBox.new w s (.slice A xs.length c) 25).below (below_alloc1 _ (.cells #[.int .i64 t, .slice A2 ys.length c2] 25))
  have t3 := TBox.new (w.alloc (.cells #[.int .i64 s, .slice A xs.length c] 25)) t (.slice A2 ys.length c2) 25
  have b3 := (below_alloc1 w (.cells #[.int .i64 s, .slice A xs.length c] 25)).alloc (by simp) (.cells #[.int .i64 t, .slice A2 ys.length c2] 25)
  simp only [World.size_alloc] at t3
  go_enter Tryd.func22, Tryd.ntmps22
  go_wp2_with fail
  generalize (w.alloc (.cells #[.int .i64 s, .slice A xs.length c] 25)).alloc (.cells #[.int .i64 t, .slice A2 ys.length c2] 25) = w0 at *
  have HX0 := Lib.hid x3
  have HY0 := Lib.hid t3
  have HB0 := Lib.hid b3
  clear x3 t3 b3
  have y0 := HX0.out.1
  have y1 := HX0.out.2
  go_wp2_with fail
  refine (implLeast s _ xs _ (HR.out.below HB0.out)).mono ?_
  rintro e w1 ⟨sl1, rfl, ho1, hb1⟩
  obtain ⟨Y1, cy1, rfl, -, -, -⟩ := ho1.form
  have b12 := below_alloc1 w1 (.cells #[.int .i64 (lnS s xs), .slice Y1 (lnL s xs).length cy1] 25)
  have HU2 := Lib.hid (TBox.new w1 (lnS s xs) (.slice Y1 (lnL s xs).length cy1) 25)
  have HO2 := Lib.hid (ho1.below b12)
  have HY2 := Lib.hid ((HY0.out.below hb1).below b12)
  have HB2 := Lib.hid (Below.then (Below.then HB0.out hb1) b12)
  clear y0 y1 ho1 hb1 b12
  have z0 := HY2.out.1
  have z1 := HY2.out.2
  go_wp2_with fail
  generalize w1.alloc (.cells #[.int .i64 (lnS s xs), .slice Y1 (lnL s xs).length cy1] 25) = w2 at *
  refine (implLeast t _ ys _ (HS.out.below HB2.out)).mono ?_
  rintro e w3 ⟨sl3, rfl, ho3, hb3⟩
  obtain ⟨Y3, cy3, rfl, -, -, -⟩ := ho3.form
  have b34 := below_alloc1 w3 (.cells #[.int .i64 (lnS t ys), .slice Y3 (lnL t ys).length cy3] 25)
  have HV4 := Lib.hid (TBox.new w3 (lnS t ys) (.slice Y3 (lnL t ys).length cy3) 25)
  have HP4 := Lib.hid (ho3.below b34)
  have HU4 := Lib.hid ((HU2.out.below hb3).below b34)
  have HO4 := Lib.hid ((HO2.out.below hb3).below b34)
  have HB4 := Lib.hid (Below.then (Below.then HB2.out hb3) b34)
  clear z0 z1 ho3 hb3 b34
  have u0 := HU4.out.1
  have u1 := HU4.out.2
  rcases q1 : symB6 s xs with _ | _
  · go_wp2
    go_ret
    exact ⟨ret_bool (by simp [likeB, q1]), HB4.out⟩
  · rcases q2 : symB6 t ys with _ | _
    · go_wp2
      go_ret
      exact ⟨ret_bool (by simp [likeB, q1, q2]), HB4.out⟩
    · have e1 := (ln_yes q1).1
      have e2 := (ln_yes q2).1
      have hs := (lnL_is q1).1.1
      have ht := (lnL_is q2).1.1
      clear u0 u1 HU2 HO2 HX0 HY0 HB0 HY2
      simp only [e1, e2] at HU4 HV4 HO4 HP4 HB4 ⊢
      have u0 := HU4.out.1
      have u1 := HU4.out.2
      have u2 := HV4.out.1
      have u3 := HV4.out.2
      clear e1 e2
      have HLK : Hid (likeB s xs t ys = (decide (s = t) && decide (lnL s xs = lnL t ys))) := by unfold Hid; simp [likeB, q1, q2]
      obtain ⟨n, rfl⟩ := Int.eq_ofNat_of_zero_le (show 0 ≤ s by omega)
      obtain ⟨m, rfl⟩ := Int.eq_ofNat_of_zero_le (show 0 ≤ t by omega)
      by_cases hnm : n = m
      · subst hnm
        have HLK2 : Hid (likeB (n : Int) xs (n : Int) ys = decide (lnL (n : Int) xs = lnL (n : Int) ys)) := by unfold Hid; rw [HLK.out]; simp
        go_wp2_with fail
        refine (same_any n _ _ (lnL (n : Int) xs) (lnL (n : Int) ys) _ HO4.out.rd HP4.out.rd).mono ?_
        rintro e w6 ⟨rfl, hb6⟩
        have HB6 := Lib.hid (Below.then HB4.out hb6)
        clear hb6 u0 u1 u2 u3
        go_wp2
        go_ret
        exact ⟨ret_bool HLK2.out.symm, HB6.out⟩
      · have HLK2 : Hid (likeB (n : Int) xs (m : Int) ys = false) := by unfold Hid; rw [HLK.out, decide_eq_false (by omega : ¬ (n : Int) = (m : Int))]; rfl
        go_wp2_with fail
        refine (same_diff n m _ _ _ _ _ _ _ hnm).mono ?_
        rintro e w6 ⟨rfl, hb6⟩
        have HB6 := Lib.hid (Below.then HB4.out hb6)
        clear hb6 u0 u1 u2 u3
        go_wp2
        go_ret
        exact ⟨ret_bool HLK2.out.symm, HB6.out⟩
theorem like_no {s : Int} {xs : List Int} {t : Int} {ys : List Int} (h : symB6 s xs = false ∨ tourB t ys = false ∨ s ≠ t) : likeB s xs t ys = false := by
  unfold likeB
  rcases h with h | h | h
  · rw [h]; rfl
  · have : symB6 t ys = false := by simp [symB6, h]
    rw [this]; simp
  · rw [decide_eq_false h]; simp
theorem like_any {n : Nat} {xs ys : List Int} (hp : tourP n xs) (hq : tourP n ys) (h6 : n ≤ 6) (hn : xs.length = n) : likeB n xs n ys = true ↔ ∃ ns ∈ namesL n, rnL xs (nI ns) = ys := by
  have q1 : symB6 (n : Int) xs = true := by simp [symB6, tourB_true.2 hp]; omega
  have q2 : symB6 (n : Int) ys = true := by simp [symB6, tourB_true.2 hq]; omega
  have e : likeB n xs n ys = true ↔ lnL (n : Int) xs = lnL (n : Int) ys := by simp [likeB, q1, q2]
  rw [e, least_like hp hq (lnL_is q1).2.2 (lnL_is q2).2.2, hn]
  constructor
  · rintro ⟨ns, hP, h⟩
    obtain ⟨ms, hms, rfl⟩ := perm_of hP
    exact ⟨ms, (names_perm h6).mem_iff.2 hms, h⟩
  · rintro ⟨ns, hns, h⟩
    exact ⟨nI ns, perm_nI.2 ((names_perm h6).mem_iff.1 hns), h⟩
end Go.Proofs.YthoodjjjklbggaaDoor

