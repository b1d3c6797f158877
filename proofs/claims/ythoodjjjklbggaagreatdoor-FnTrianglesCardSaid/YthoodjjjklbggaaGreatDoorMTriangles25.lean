/- Texts put together: TgT. -/
import Derived.Test.YthoodjjjklbggaaGreatDoorMTriangles24
import Derived.Test.YthoodjjjklbggaaGreatDoorMTriangles09
import Derived.Test.YthoodjjjklbggaaGreatDoorMTriangles19
namespace Go.Proofs.YthoodjjjklbggaaGreatDoor
open Go.RowKit Go.Sort
set_option maxRecDepth 100000
/-- what MakeTwins has made -/
structure TwN (w W : World) (lo g : Nat) (v : Value) (n b7 b8 : Nat) (A B : Option Addr) (c d : Nat) (xs ys : List Int) : Prop where
  res0 : BoxF W w.heap.size 0 (.slice none 0 0)
  res1 : BoxF W (w.heap.size + 1) 0 (.slice none 0 0)
  bx7 : BoxF W b7 n (.slice A n c)
  bx8 : BoxF W b8 n (.slice B n d)
  rd7 : Rd W (.slice A n c) xs
  rd8 : Rd W (.slice B n d) ys
  bl7 : ∀ a, A = some a → g < a.block ∧ a.block ≠ b8 ∧ w.heap.size + 1 < a.block
  bl8 : ∀ a, B = some a → g < a.block ∧ a.block ≠ b8 ∧ w.heap.size + 1 < a.block
  cur : CurB lo W g v
  below : Below w.heap.size w W
theorem TwN.next {w W W' : World} {lo g : Nat} {v : Value} {n b7 b8 : Nat} {A B : Option Addr} {c d : Nat} {xs ys : List Int} (h : TwN w W lo g v n b7 b8 A B c d xs ys) (hb : Below W.heap.size W W') : TwN w W' lo g v n b7 b8 A B c d xs ys :=
  ⟨h.res0.below hb, h.res1.below hb, h.bx7.below hb, h.bx8.below hb, h.rd7.below hb, h.rd8.below hb, h.bl7, h.bl8, h.cur.below hb, Below.then h.below hb⟩
theorem TwN.drawn {w W W' : World} {lo g : Nat} {v : Value} {n b7 b8 : Nat} {A B : Option Addr} {c d : Nat} {xs ys : List Int} (h : TwN w W lo g v n b7 b8 A B c d xs ys) (hg : W.grownBy W' (some g)) (hc : CurB lo W' g v) (h1 : w.heap.size + 1 < g) (h2 : g ≠ b7) (h3 : g ≠ b8) : TwN w W' lo g v n b7 b8 A B c d xs ys :=
  ⟨h.res0.kept hg (by simp; omega), h.res1.kept hg (by simp; omega), h.bx7.kept hg (by simp; omega), h.bx8.kept hg (by simp; omega), h.rd7.grown hg (fun a k c e => by injection e with e _ _; have := (h.bl7 a e).1; simp; omega), h.rd8.grown hg (fun a k c e => by injection e with e _ _; have := (h.bl8 a e).1; simp; omega), h.bl7, h.bl8, hc, h.below.grown hg h.below.size (fun k e => by injection e with e; omega)⟩
/-- the second tour is written anew -/
theorem TwN.put {w W : World} {lo g : Nat} {v : Value} {n b7 b8 : Nat} {A B Y : Option Addr} {c d e : Nat} {xs ys zs : List Int} (h : TwN w W lo g v n b7 b8 A B c d xs ys) (hr : Rd W (.slice Y n e) zs) (hy : ∀ a, Y = some a → g < a.block ∧ a.block ≠ b8 ∧ w.heap.size + 1 < a.block) (h1 : w.heap.size + 1 < b8) (h2 : b7 ≠ b8) (h3 : g ≠ b8) (h4 : lo ≤ b8) :
    TwN w ((W.setCell ⟨b8, 0, none⟩ (.int .i64 n)).setCell ⟨b8, 1, none⟩ (.slice Y n e)) lo g v n b7 b8 A Y c e xs zs := by
  have g1 := setCell_grown W ⟨b8, 0, none⟩ (.int .i64 n)
  have g2 := setCell_grown (W.setCell ⟨b8, 0, none⟩ (.int .i64 n)) ⟨b8, 1, none⟩ (.slice Y n e)
  have hg : W.grownBy ((W.setCell ⟨b8, 0, none⟩ (.int .i64 n)).setCell ⟨b8, 1, none⟩ (.slice Y n e)) (some b8) := g1.trans g2
  exact ⟨h.res0.kept hg (by simp; omega), h.res1.kept hg (by simp; omega), h.bx7.kept hg (by simp; omega), h.bx8.set01 n (.slice Y n e), h.rd7.grown hg (fun a k c e => by injection e with e _ _; have := (h.bl7 a e).2.1; simp; omega), hr.grown hg (fun a k c e => by injection e with e _ _; have := (hy a e).2.1; simp; omega), h.bl7, hy, h.cur.kept hg (fun k e => by injection e with e; omega), h.below.grown hg h.below.size (fun k e => by injection e with e; omega)⟩
set_option maxHeartbeats 8000000 in
theorem makeTwins_any (w : World) (v : Value) (k : Int) (m : Nat) (hk : k = m) (hm : m ≤ 1000) (hv : BytesV w w.heap.size v) :
    Calls Tryz.prog 16 #[v, .int .i64 k] w fun e w' => ∃ (n : Nat) (A : Option Addr) (c : Nat) (xs : List Int) (B : Option Addr) (d : Nat) (ys : List Int), e = .returned (.tuple #[.agg #[.int .i64 n, .slice A n c], .agg #[.int .i64 n, .slice B n d]]) ∧ n ≤ 5 ∧ tourP n xs ∧ tourP n ys ∧ tRe n xs ys ∧ Rd w' (.slice A n c) xs ∧ Rd w' (.slice B n d) ys ∧ Below w.heap.size w w' := by
  have HV := Lib.hid hv
  have HK := Lib.hid hk
  clear hv hk
  have HT0 := Lib.hid ((BoxF.new w 0 (.slice none 0 0) 25).below (below_alloc1 _ (.cells #[.int .i64 0, .slice none 0 0] 25)))
  have ht1 := BoxF.new (w.alloc (.cells #[.int .i64 0, .slice none 0 0] 25)) 0 (.slice none 0 0) 25
  simp only [World.size_alloc] at ht1
  have HT1 := Lib.hid ht1
  have HB0 := Lib.hid ((below_alloc1 w (.cells #[.int .i64 0, .slice none 0 0] 25)).alloc (by simp) (.cells #[.int .i64 0, .slice none 0 0] 25))
  have hz0 : ((w.alloc (.cells #[.int .i64 0, .slice none 0 0] 25)).alloc (.cells #[.int .i64 0, .slice none 0 0] 25)).heap.size = w.heap.size + 2 := by simp
  have HZ0 := Lib.hid hz0
  clear ht1 hz0
  go_enter Tryz.func16, Tryz.ntmps16
  go_wp2_with fail
  generalize (w.alloc (.cells #[.int .i64 0, .slice none 0 0] 25)).alloc (.cells #[.int .i64 0, .slice none 0 0] 25) = w0 at *
  refine (l32New_lit w0 v k m HK.out hm ((HV.out.keep fun p hp => HB0.out.cell hp).mono HB0.out.size)).mono ?_
  rintro e w1 ⟨g, rfl, hc1, hb1⟩
  have HC1 := Lib.hid hc1
  have hgl : w.heap.size + 1 < g := by have := hc1.le; rw [HZ0.out] at this; omega
  have H10 := Lib.hid (HT0.out.below hb1)
  have H11 := Lib.hid (HT1.out.below hb1)
  have HB1 := Lib.hid (Below.then HB0.out hb1)
  have HLO : Hid (w0.heap.size ≤ g) := Lib.hid hc1.le
  clear hc1 hb1 HT0 HT1 HB0
  go_wp2_with fail
  refine (l02Draw_any w0.heap.size w1 g v 5 (by omega) (by omega) HC1.out).mono ?_
  rintro e w2 ⟨n, sl, xs, rfl, hn5, hp, ho, hc2, hg2⟩
  obtain ⟨A, c, rfl, -⟩ := ho.form
  rw [tour_len hp] at ho ⊢
  have HP := Lib.hid hp
  have H20 := Lib.hid (H10.out.kept hg2 (by simp; omega))
  have H21 := Lib.hid (H11.out.kept hg2 (by simp; omega))
  have HB2 := Lib.hid (HB1.out.grown hg2 HB1.out.size (fun k e => by injection e with e; omega))
  have HC2 := Lib.hid hc2
  have hgl2 : g < w1.heap.size := HC1.out.lt
  have HA2 : Hid (∀ a, A = some a → g < a.block ∧ a.block < w2.heap.size) := Lib.hid fun a ha => by
    have := own_block ho a ha
    omega
  have HR2 := Lib.hid ho.rd
  have hgs : g < w2.heap.size := Nat.lt_of_lt_of_le hgl2 hg2.size
  have hlo2 : w0.heap.size ≤ w2.heap.size := by have := HLO.out; omega
  clear hp ho hc2 hg2 H10 H11 HB1 HC1
  have b3 := (below_alloc1 w2 (.cells #[.int .i64 n, .slice A n c] 25)).alloc (by simp) (.cells #[.int .i64 n, .slice A n c] 25)
  have t7 := (BoxF.new w2 n (.slice A n c) 25).below (below_alloc1 _ (.cells #[.int .i64 n, .slice A n c] 25))
  have t8 := BoxF.new (w2.alloc (.cells #[.int .i64 n, .slice A n c] 25)) n (.slice A n c) 25
  simp only [World.size_alloc] at t8
  go_wp2_with fail
  generalize (w2.alloc (.cells #[.int .i64 n, .slice A n c] 25)).alloc (.cells #[.int .i64 n, .slice A n c] 25) = w3 at *
  obtain ⟨b7, hb7⟩ : ∃ b7, b7 = w2.heap.size := ⟨_, rfl⟩
  obtain ⟨b8, hb8⟩ : ∃ b8, b8 = w2.heap.size + 1 := ⟨_, rfl⟩
  rw [← hb8] at t8 ⊢
  rw [← hb7] at t7 ⊢
  have hAB : ∀ a, A = some a → g < a.block ∧ a.block ≠ b8 ∧ w.heap.size + 1 < a.block := fun a ha => by
    have := HA2.out a ha
    omega
  have HN3 : Hid (TwN w w3 w0.heap.size g v n b7 b8 A A c c xs xs) := Lib.hid ⟨H20.out.below b3, H21.out.below b3, t7, t8, HR2.out.below b3, HR2.out.below b3, hAB, hAB, HC2.out.below b3, Below.then HB2.out b3⟩
  have hg7 : g < b7 := by omega
  have hb78 : b7 < b8 := by omega
  have hl8 : w0.heap.size ≤ b8 := by omega
  have HAB := Lib.hid hAB
  clear b3 t7 t8 H20 H21 HB2 HC2 HA2 HR2 hb7 hb8 hAB hgs hlo2 hgl2
  refine (l01Below_any w0.heap.size w3 g v 6 (by omega) (by omega) HN3.out.cur).mono ?_
  rintro e w4 ⟨x, rfl, hx, hc4, hg4⟩
  have HN4 := Lib.hid (HN3.out.drawn hg4 hc4 hgl (by omega) (by omega))
  clear hc4 hg4 HN3
  go_wp2
  go_loopw [9] (fun t9 wr => ∃ (j : Nat) (B : Option Addr) (d : Nat) (ys : List Int), j ≤ 5 ∧ t9 = .int .i64 j ∧ Hid (tRe n xs ys) ∧ Hid (tourP n ys) ∧ Hid (TwN w wr w0.heap.size g v n b7 b8 A B c d xs ys)) (fun t9 _ => (intOf t9).toNat)
  case atStart => exact ⟨x, A, c, xs, by omega, rfl, Lib.hid ⟨0, rfl⟩, HP, HN4⟩
  case round =>
    obtain ⟨wk, rfl⟩ : ∃ x, x = wr := ⟨_, rfl⟩
    obtain ⟨j, B, d, ys, hj, rfl, HRE, HPY, HN⟩ := hrel
    clear HN4
    by_cases h0 : 0 < j
    · have hd0 : decide ((0 : Int) < (j : Int)) = true := by rw [decide_eq_true_eq]; omega
      have y0 := HN.out.bx8.1.1
      have y1 := HN.out.bx8.1.2
      go_wp2_with fail
      refine (l04All_any n _ ys wk HN.out.rd8 HPY.out).mono ?_
      rintro e w5 ⟨tv, rfl, ho5, hb5⟩
      rw [tour_len HPY.out] at ho5
      obtain ⟨AT, cT, rfl, hcT, hlT, -⟩ := ho5.form
      unfold maxLen at hcT
      have HTR : Hid (∀ j, j < (triA ys n n).length → ∃ a b f : Nat, (triA ys n n).getD j [] = [(a : Int), (b : Int), (f : Int)] ∧ tgP ys n a b f) := Lib.hid fun j hj => by
        rw [List.getD_eq_getElem?_getD, List.getElem?_eq_getElem hj]
        exact (mem_tri HPY.out).1 (List.getElem_mem hj)
      have h8 : n ≤ 8 := by omega
      have htl : (triA ys n n).length ≤ 256 := by
        have h1 := triA_len ys n n
        have h2 : n * n ≤ 5 * 5 := Nat.mul_le_mul hn5 hn5
        have h3 : n * n * n ≤ 5 * 5 * 5 := Nat.mul_le_mul h2 hn5
        omega
      have HN5 := Lib.hid (HN.out.next hb5)
      have HT5 := Lib.hid ho5
      have hgk : g < wk.heap.size := HN.out.cur.lt
      have hbk : b8 < wk.heap.size := HN.out.bx8.gt
      obtain ⟨t, ht⟩ : ∃ t, t = (triA ys n n).length := ⟨_, rfl⟩
      have HTT := Lib.hid ht
      rw [← ht] at hlT htl HT5 ⊢
      have hsz5 := hb5.size
      have HSZ := Lib.hid hsz5
      clear ht ho5 hb5 y0 y1 HN h8 hsz5
      by_cases ht0 : 0 < t
      · as_aux_lemma =>
        have hdt : decide ((0 : Int) < (t : Int)) = true := by rw [decide_eq_true_eq]; omega
        obtain ⟨A', c', e', -, -, hx⟩ := HT5.out.form
        injection e' with e1 e2 e3
        clear e2
        subst e1 e3
        obtain ⟨gt, rfl, hgt, hrow⟩ := hx (by rw [← HTT.out]; exact ht0)
        have hgtk : wk.heap.size ≤ gt := (HT5.out.lt gt rfl).1
        obtain ⟨us, hus⟩ : ∃ us : Nat → Value, ∀ i, i < t → w5.cell? ⟨gt, i, none⟩ = some (us i) ∧ ∃ Br dr, us i = .slice Br ((triA ys n n).getD i []).length dr ∧ Own w5 wk.heap.size (.slice Br ((triA ys n n).getD i []).length dr) ((triA ys n n).getD i []) := by
          refine ⟨fun i => (w5.cell? ⟨gt, i, none⟩).getD undef, fun i hi => ?_⟩
          obtain ⟨Br, dr, h1, h2⟩ := hrow i (by rw [← HTT.out]; exact hi)
          have e9 : (fun i => (w5.cell? ⟨gt, i, none⟩).getD undef) i = .slice Br ((triA ys n n).getD i []).length dr := by
            show (w5.cell? ⟨gt, i, none⟩).getD undef = _
            rw [h1]; rfl
          exact ⟨h1.trans (by rw [e9]), Br, dr, e9, h2⟩
        have HUS := Lib.hid hus
        have hEF : ∀ (args : Array Value) (W : World), (callFunc 37 args).run Tryz.prog W = .ok (.enter 37 args) W := fun args W => by kernel_rfl
        have hEG : ∀ (args : Array Value) (W : World), (callFunc 39 args).run Tryz.prog W = .ok (.enter 39 args) W := fun args W => by kernel_rfl
        have hb5s := HN5.out.bx8.gt
        have KS : Hid (∀ W, w5.grownBy W (some g) → (W.cell? ⟨b8, 0, none⟩ = some (.int .i64 n) ∧ W.cell? ⟨b8, 1, none⟩ = some (.slice B n d) ∧ ∀ i, i < t → W.cell? ⟨gt, i, none⟩ = some (us i))) := Lib.hid fun W hW =>
          ⟨(HN5.out.bx8.kept hW (by simp; omega)).1.1, (HN5.out.bx8.kept hW (by simp; omega)).1.2, fun i hi => (World.cell?_of_block (w := w5) (hW.block gt hgt (by simp; omega))).trans (HUS.out i hi).1⟩
        clear hus hrow hx HT5
        go_wp2_with fail
        have BD : w5.grownBy w5.drew (some g) := ⟨rfl, rfl, rfl, Nat.le_refl _, fun _ _ _ => rfl⟩
        refine wp_region_heldT 9 (fun W => W.cell? ⟨b8, 0, none⟩ = some (.int .i64 n) ∧ W.cell? ⟨b8, 1, none⟩ = some (.slice B n d) ∧ ∀ i, i < t → W.cell? ⟨gt, i, none⟩ = some (us i)) (by kernel_rfl) (by kernel_rfl) (KS.out _ BD) (fun hS0 => ?_)
        refine GoT.take (i := 0) (v := ?v0_1) rfl (by kernel_rfl) (by rfl) (by kernel_rfl) (by kernel_rfl) (fun _ _ _ h => h) (Or.inl ⟨by rfl, ?hy0_1⟩) hS0 ?rest0_1
        case hy0_1 =>
          intro W hSw
          (try dsimp only at hSw)
          go_simp
          first | done | (with_reducible rfl)
        try simp only [Act.put, List.setIfInBounds_toArray, List.set_cons_zero, List.set_cons_succ]
        refine GoT.take (i := 1) (v := ?v1_2) rfl (by kernel_rfl) (by rfl) (by kernel_rfl) (by kernel_rfl) (fun _ _ _ h => h) (Or.inl ⟨by rfl, ?hy1_2⟩) hS0 ?rest1_2
        case hy1_2 =>
          intro W hSw
          (try dsimp only at hSw)
          go_simp
          first | done | (with_reducible rfl)
        try simp only [Act.put, List.setIfInBounds_toArray, List.set_cons_zero, List.set_cons_succ]
        refine GoT.take (i := 2) (v := ?v2_3) rfl (by kernel_rfl) (by rfl) (by kernel_rfl) (by kernel_rfl) (fun _ _ _ h => h) (Or.inl ⟨by rfl, ?hy2_3⟩) hS0 ?rest2_3
        case hy2_3 =>
          intro W hSw
          (try dsimp only at hSw)
          go_simp
          first | done | (with_reducible rfl)
        try simp only [Act.put, List.setIfInBounds_toArray, List.set_cons_zero, List.set_cons_succ]
        refine GoT.take (i := 3) (v := ?v3_4) rfl (by kernel_rfl) (by rfl) (by kernel_rfl) (by kernel_rfl) (fun _ _ _ h => h) (Or.inl ⟨by rfl, ?hy3_4⟩) hS0 ?rest3_4
        case hy3_4 =>
          intro W hSw
          (try dsimp only at hSw)
          go_simp
          first | done | (with_reducible rfl)
        try simp only [Act.put, List.setIfInBounds_toArray, List.set_cons_zero, List.set_cons_succ]
        refine GoT.take (i := 4) (v := ?v4_5) rfl (by kernel_rfl) (by rfl) (by kernel_rfl) (by kernel_rfl) (fun _ _ _ h => h) (Or.inl ⟨by rfl, ?hy4_5⟩) hS0 ?rest4_5
        case hy4_5 =>
          intro W hSw
          (try dsimp only at hSw)
          go_simp
          first | done | (with_reducible rfl)
        try simp only [Act.put, List.setIfInBounds_toArray, List.set_cons_zero, List.set_cons_succ]
        refine GoT.one (i := 5) rfl (by rfl) (by kernel_rfl) (fun K hK => ?_)
        refine step_call w5.drew (by rfl) 37 #[.tmp 30, .tmp 32] _ (by rfl) #[.pointer (some ⟨g, 0, none⟩), .int .i64 t] (by simp [Act.eval]) hEF ((l01Below_any w0.heap.size w5.drew g v t (by omega) htl HN5.out.cur.drew).mono ?_)
        rintro e w6 ⟨x6, rfl, hx6, hc6, hg6⟩
        refine ⟨_, rfl, ?_⟩
        have B6 : w5.grownBy w6 (some g) := BD.trans hg6
        have HN6 := Lib.hid (HN5.out.drawn B6 hc6 hgl (by omega) (by omega))
        clear hc6 hg6
        refine hK.out _ _ (KS.out _ B6) (fun hS1 => ?_)
        clear hK K
        simp only [Act.put, List.setIfInBounds_toArray, List.set_cons_zero, List.set_cons_succ]
        obtain ⟨-, Br, dr, eu, hor⟩ := HUS.out x6 hx6
        obtain ⟨a, b, f, er, htg⟩ := HTR.out x6 (by rw [← HTT.out]; exact hx6)
        rw [er] at eu hor
        have eu3 : us x6 = .slice Br 3 dr := eu
        have HOR : Hid (Rd w6 (.slice Br 3 dr) [(a : Int), (b : Int), (f : Int)]) := Lib.hid (by
          have h1 : Own w5 wk.heap.size (.slice Br 3 dr) [(a : Int), (b : Int), (f : Int)] := hor
          exact h1.rd.grown B6 (fun A1 n1 c1 e => by
            injection e with e _ _
            have := (h1.lt A1.block (by rw [e]; rfl)).1
            simp; omega))
        obtain ⟨n1, n2, n3⟩ := tg_ne HPY.out htg
        have HTG := Lib.hid htg
        have ha := htg.1
        have hb := htg.2.1
        have hf := htg.2.2.1
        have hzt := rv3_tour HPY.out ha hb hf n1 n2 n3
        have HZT := Lib.hid hzt
        clear eu hor htg hzt er
        refine GoT.take (i := 6) (v := ?v6_6) rfl (by kernel_rfl) (by rfl) (by kernel_rfl) (by kernel_rfl) (fun _ _ _ h => h) (Or.inl ⟨by rfl, ?hy6_6⟩) hS1 ?rest6_6
        case hy6_6 =>
          intro W hSw
          (try dsimp only at hSw)
          go_simp
          first | done | (with_reducible rfl)
        try simp only [Act.put, List.setIfInBounds_toArray, List.set_cons_zero, List.set_cons_succ]
        refine GoT.take (i := 7) (v := ?v7_7) rfl (by kernel_rfl) (by rfl) (by kernel_rfl) (by kernel_rfl) (fun _ _ _ h => h) (Or.inl ⟨by rfl, ?hy7_7⟩) hS1 ?rest7_7
        case hy7_7 =>
          intro W hSw
          (try dsimp only at hSw)
          go_simp
          first | done | (with_reducible rfl)
        try simp only [Act.put, List.setIfInBounds_toArray, List.set_cons_zero, List.set_cons_succ]
        refine GoT.one (i := 8) rfl (by rfl) (by kernel_rfl) (fun K hK => ?_)
        refine step_call w6 (by rfl) 39 #[.tmp 28, .tmp 35] _ (by rfl) #[.agg #[.int .i64 n, .slice B n d], .slice Br 3 dr] (by simp [Act.eval]) hEG ((cReverseS HPY.out HN6.out.rd8 ha hb hf n1 n2 n3 HOR.out).mono ?_)
        rintro e w7 ⟨Y, cy, rfl, ho7, hb7⟩
        refine ⟨_, rfl, ?_⟩
        have B7 : w5.grownBy w7 (some g) := B6.trans ⟨hb7.os, hb7.tape, hb7.output, hb7.size, fun i hi _ => hb7.block i hi⟩
        have HN7 := Lib.hid (HN6.out.next hb7)
        have HYB := Lib.hid (own_block ho7)
        have HRY := Lib.hid ho7.rd
        have hs6 := B6.size
        clear hb7 ho7
        refine hK.out _ _ (KS.out _ B7) (fun hS2 => ?_)
        clear hK K
        simp only [Act.put, List.setIfInBounds_toArray, List.set_cons_zero, List.set_cons_succ]
        refine GoT.stop (by kernel_rfl) ?_
        simp only [List.drop_succ_cons, List.drop_zero]
        have hg8 : b8 < w5.heap.size := hb5s
        have HP8 := Lib.hid (HN7.out.put HRY.out (fun x hx => by have := (HYB.out x hx).1; omega) (by omega) (by omega) (by omega) hl8)
        have v0 := HN7.out.bx8.1.1
        have v1 := HN7.out.bx8.1.2
        have f0 := HN7.out.bx8.2 0
        have f1 := HN7.out.bx8.2 1
        clear hS0 hS1 hS2 B6 B7 BD KS HUS eu3 hEF hEG
        go_wp2
        go_roundw
        case rel => exact ⟨j - 1, Y, cy, rv3 ys a b f, by omega, by go_num, Lib.hid (HRE.out.snoc ⟨a, b, f, HTG.out, rfl⟩), HZT, HP8⟩
        case measure => simp [intOf]; omega
      · as_aux_lemma =>
        have hdt : decide ((0 : Int) < (t : Int)) = false := by rw [decide_eq_false_iff_not]; omega
        go_wp2
        go_roundw
        case rel => exact ⟨j - 1, B, d, ys, by omega, by go_num, HRE, HPY, HN5⟩
        case measure => simp [intOf]; omega
    · obtain rfl : j = 0 := by omega
      go_wp2_with fail
      have HNz := Lib.hid HN.out
      have y70 := HN.out.bx7.1.1
      have y71 := HN.out.bx7.1.2
      have y80 := HN.out.bx8.1.1
      have y81 := HN.out.bx8.1.2
      have v0 := HN.out.res0.1.1
      have v1 := HN.out.res0.1.2
      have f0 := HN.out.res0.2 0
      have f1 := HN.out.res0.2 1
      have u0 := HN.out.res1.1.1
      have u1 := HN.out.res1.1.2
      have g0 := HN.out.res1.2 0
      have g1 := HN.out.res1.2 1
      clear HN
      have k1 := setCell_grown wk ⟨w.heap.size, 0, none⟩ (.int .i64 n)
      have k2 := setCell_grown (wk.setCell ⟨w.heap.size, 0, none⟩ (.int .i64 n)) ⟨w.heap.size, 1, none⟩ (.slice A n c)
      have k12 : wk.grownBy ((wk.setCell ⟨w.heap.size, 0, none⟩ (.int .i64 n)).setCell ⟨w.heap.size, 1, none⟩ (.slice A n c)) (some w.heap.size) := k1.trans k2
      have q0 := HNz.out.res0.set01 n (.slice A n c)
      have q1 := HNz.out.res1.kept k12 (by simp)
      have r7 := HNz.out.rd7.grown k12 (fun a k c e => by injection e with e _ _; have := (HNz.out.bl7 a e).2.2; simp; omega)
      have r8 := HNz.out.rd8.grown k12 (fun a k c e => by injection e with e _ _; have := (HNz.out.bl8 a e).2.2; simp; omega)
      have bw := (HNz.out.below.setCell (p := ⟨w.heap.size, 0, none⟩) (Nat.le_refl _) (.int .i64 n)).setCell (p := ⟨w.heap.size, 1, none⟩) (Nat.le_refl _) (.slice A n c)
      clear k1 k2 k12
      obtain ⟨W2, hW2⟩ : ∃ W2, W2 = (wk.setCell ⟨w.heap.size, 0, none⟩ (.int .i64 n)).setCell ⟨w.heap.size, 1, none⟩ (.slice A n c) := ⟨_, rfl⟩
      rw [← hW2] at q0 q1 r7 r8 bw
      have k1 := setCell_grown W2 ⟨w.heap.size + 1, 0, none⟩ (.int .i64 n)
      have k2 := setCell_grown (W2.setCell ⟨w.heap.size + 1, 0, none⟩ (.int .i64 n)) ⟨w.heap.size + 1, 1, none⟩ (.slice B n d)
      have k12 : W2.grownBy ((W2.setCell ⟨w.heap.size + 1, 0, none⟩ (.int .i64 n)).setCell ⟨w.heap.size + 1, 1, none⟩ (.slice B n d)) (some (w.heap.size + 1)) := k1.trans k2
      have q2 := q1.set01 n (.slice B n d)
      have q3 := q0.kept k12 (by simp)
      have s7 := r7.grown k12 (fun a k c e => by injection e with e _ _; have := (HNz.out.bl7 a e).2.2; simp; omega)
      have s8 := r8.grown k12 (fun a k c e => by injection e with e _ _; have := (HNz.out.bl8 a e).2.2; simp; omega)
      have bw2 := (bw.setCell (p := ⟨w.heap.size + 1, 0, none⟩) (Nat.le_succ _) (.int .i64 n)).setCell (p := ⟨w.heap.size + 1, 1, none⟩) (Nat.le_succ _) (.slice B n d)
      rw [hW2] at q2 q3 s7 s8 bw2
      have Q2 := Lib.hid q2
      have Q3 := Lib.hid q3
      have S7 := Lib.hid s7
      have S8 := Lib.hid s8
      have BW := Lib.hid bw2
      clear k1 k2 k12 q0 q1 q2 q3 r7 r8 s7 s8 bw bw2 hW2 HNz
      go_region_law (fail)
      all_goals
        go_wp2
        have r0 := Q3.out.1.1
        have r1 := Q3.out.1.2
        have r2 := Q2.out.1.1
        have r3 := Q2.out.1.2
        refine bodyPost_ret (v := .tuple #[.agg #[.int .i64 n, .slice A n c], .agg #[.int .i64 n, .slice B n d]]) (by simp only [results, Tryz.results16]; simp [go_sem, r0, r1, r2, r3]) rfl ⟨n, A, c, xs, B, d, ys, rfl, hn5, HP.out, HPY.out, HRE.out, S7.out, S8.out, BW.out.drew⟩
end Go.Proofs.YthoodjjjklbggaaGreatDoor

