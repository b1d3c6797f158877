/- Texts put together: Draw5. -/
import Derived.Test.YtbkiedhaacapbaaDoorMTours15
import Derived.Test.YtbkiedhaacapbaaDoorMTours09
import Derived.Test.YtbkiedhaacapbaaDoorMTours08
import Derived.Test.YtbkiedhaacapbaaDoorMTours12
import Derived.Deep.RegionHeld3
import Derived.Deep.DeepCutAuto
namespace Go.Proofs.YtbkiedhaacapbaaDoor
open Go.RowKit Go.Sort
set_option maxRecDepth 100000
set_option maxHeartbeats 2000000 in
theorem l01Once_any (lo : Nat) (w : World) (g : Nat) (v : Value) (k : Int) (n : Nat) (hk : k = n) (hn : 1 ≤ n) (hn2 : n ≤ 256) (hc : CurB lo w g v) :
    Calls Tryd.prog 69 #[.pointer (some ⟨g, 0, none⟩), .int .i64 k] w fun e w' => ∃ b : Bool, e = .returned (.bool b) ∧ CurB lo w' g v ∧ w.grownBy w' (some g) := by
  subst hk
  have HC := Lib.hid hc
  clear hc
  go_enter Tryd.func69, Tryd.ntmps69
  go_wp2_with fail
  refine (l01Below_any lo _ g v n hn hn2 HC.out).mono ?_
  rintro e w1 ⟨x, rfl, hx, hc1, hg1⟩
  have HC1 := Lib.hid hc1
  have HG1 := Lib.hid hg1
  clear hc1 hg1
  rcases Nat.eq_zero_or_pos x with h0 | h0
  · subst h0
    go_wp2
    go_ret
    exact ⟨true, rfl, HC1.out, HG1.out⟩
  · have hx0 : ((x : Int) == 0) = false := by simp; omega
    have hx1 : (x == 0) = false := by simp; omega
    go_wp2
    go_ret
    exact ⟨false, ret_bool (by first | rfl | (simp; omega)), HC1.out, HG1.out⟩
/-- the tour that is being drawn, in its box -/
structure DrT (w W : World) (g bt lo n : Nat) (cv : Value) : Prop where
  tour : ∃ sl xs, tourP n xs ∧ BoxF W bt n sl ∧ Own W (w.heap.size + 1) sl xs ∧ ∀ k, sl.ownBlock = some k → k ≠ bt
  box : BoxF W w.heap.size 0 (.slice none 0 0)
  cur : CurB lo W g cv
  grown : w.grownBy W (some g)
theorem DrT.cursor {w W W' : World} {g bt lo n : Nat} {cv : Value} (h : DrT w W g bt lo n cv) (hgw : g < w.heap.size) (hb : w.heap.size < bt) (hc : CurB lo W' g cv) (hg : W.grownBy W' (some g)) : DrT w W' g bt lo n cv := by
  obtain ⟨sl, xs, h1, h2, h3, h4⟩ := h.tour
  exact ⟨⟨sl, xs, h1, h2.kept hg (by simp; omega), h3.kept hg (own_ne (fun k hk => (h3.lt k hk).1) (by omega)), h4⟩, h.box.kept hg (by simp; omega), hc, h.grown.trans hg⟩
/-- a new tour goes into the box -/
theorem DrT.put {w W : World} {g bt lo n n' : Nat} {cv sl : Value} {xs : List Int} (h : DrT w W g bt lo n cv) (hgw : g < w.heap.size) (hb : w.heap.size < bt) (hp : tourP n' xs) (ho : Own W (w.heap.size + 1) sl xs) (hne : ∀ k, sl.ownBlock = some k → k ≠ bt) :
    DrT w ((W.setCell ⟨bt, 0, none⟩ (.int .i64 n')).setCell ⟨bt, 1, none⟩ sl) g bt lo n' cv := by
  obtain ⟨sl0, xs0, h1, h2, h3, h4⟩ := h.tour
  have g1 : W.grownBy (W.setCell ⟨bt, 0, none⟩ (.int .i64 n')) (some bt) := setCell_grown _ ⟨bt, 0, none⟩ _
  have g2 : (W.setCell ⟨bt, 0, none⟩ (.int .i64 n')).grownBy ((W.setCell ⟨bt, 0, none⟩ (.int .i64 n')).setCell ⟨bt, 1, none⟩ sl) (some bt) := setCell_grown _ ⟨bt, 1, none⟩ _
  have hn : sl.ownBlock = none ∨ sl.ownBlock ≠ some bt := by
    rcases q : sl.ownBlock with _ | k
    · exact .inl rfl
    · right; intro e; injection e with e; exact hne k q e
  exact ⟨⟨sl, xs, hp, h2.set01 n' sl, (ho.kept g1 hn).kept g2 hn, hne⟩, (h.box.kept g1 (by simp; omega)).kept g2 (by simp; omega), (h.cur.kept g1 (fun k hk => by injection hk with hk; have := h.cur.le; have := h.cur.lt; omega)).kept g2 (fun k hk => by injection hk with hk; have := h.cur.le; have := h.cur.lt; omega), grown_newC (grown_newC h.grown g1 (fun k hk => by injection hk with hk; omega)) g2 (fun k hk => by injection hk with hk; omega)⟩
theorem DrT.below {w W W' : World} {g bt lo n : Nat} {cv : Value} (h : DrT w W g bt lo n cv) (hb : Below W.heap.size W W') : DrT w W' g bt lo n cv := by
  obtain ⟨sl, xs, h1, h2, h3, h4⟩ := h.tour
  exact ⟨⟨sl, xs, h1, h2.below hb, h3.below hb, h4⟩, h.box.below hb, h.cur.below hb, grown_belowC h.grown (Below.mono hb h.grown.size)⟩
theorem DrT.drew {w W : World} {g bt lo n : Nat} {cv : Value} (h : DrT w W g bt lo n cv) : DrT w W.drew g bt lo n cv := by
  obtain ⟨sl, xs, h1, h2, h3, h4⟩ := h.tour
  exact ⟨⟨sl, xs, h1, h2, h3, h4⟩, h.box, h.cur.drew, ⟨h.grown.os, h.grown.tape, h.grown.output, h.grown.size, h.grown.block⟩⟩
set_option maxHeartbeats 8000000 in
theorem l05Draw_any (lo : Nat) (w : World) (g : Nat) (cv : Value) (most : Nat) (hm1 : 1 ≤ most) (hm8 : most ≤ 8) (hc : CurB lo w g cv) :
    Calls Tryd.prog 53 #[.pointer (some ⟨g, 0, none⟩), .int .i64 most] w fun e w' => ∃ (n : Nat) (sl : Value) (xs : List Int), e = .returned (.agg #[.int .i64 n, sl]) ∧ n ≤ most ∧ tourP n xs ∧ Own w' w.heap.size sl xs ∧ w.grownBy w' (some g) := by
  have hgw := hc.lt
  have hrb : w.heap.size ≠ g := by omega
  have HC0 := Lib.hid (hc.below (below_alloc1 w (.cells #[.int .i64 0, .slice none 0 0] 25)))
  have HT0 := Lib.hid (BoxF.new w 0 (.slice none 0 0) 25)
  have hsz0 : (w.alloc (.cells #[.int .i64 0, .slice none 0 0] 25)).heap.size = w.heap.size + 1 := by simp
  have HG0 : Hid (w.grownBy (w.alloc (.cells #[.int .i64 0, .slice none 0 0] 25)) (some g)) := Lib.hid (grown_belowC ⟨rfl, rfl, rfl, Nat.le_refl _, fun _ _ _ => rfl⟩ (below_alloc1 _ _))
  have HS0 := Lib.hid hsz0
  clear hc hsz0
  go_enter Tryd.func53, Tryd.ntmps53
  go_wp2_with fail
  generalize w.alloc (.cells #[.int .i64 0, .slice none 0 0] 25) = w0 at *
  go_wp2_with fail
  refine (l02Draw_any lo w0 g cv most hm1 hm8 HC0.out).mono ?_
  rintro e w1 ⟨n, sl, xs, rfl, hnm, hp, ho, hc1, hg1⟩
  have hb1 := below_alloc1 w1 (.cells #[.int .i64 n, sl] 25)
  have hbt : w.heap.size < w1.heap.size := Nat.lt_of_lt_of_le HT0.out.gt hg1.size
  have hn1 : 1 ≤ n := by have := hp.1; omega
  have HD1 : Hid (DrT w (w1.alloc (.cells #[.int .i64 n, sl] 25)) g w1.heap.size lo n cv) := Lib.hid ⟨⟨sl, xs, hp, BoxF.new w1 n sl 25, (ho.below hb1).mono (Nat.le_of_eq HS0.out.symm), fun k hk => by have := (ho.lt k hk).2; omega⟩, (HT0.out.kept hg1 (by simpa using hrb)).below hb1, hc1.below hb1, grown_belowC (HG0.out.trans hg1) (Below.mono hb1 (Nat.le_of_lt hbt))⟩
  obtain ⟨Y0, cy0, rfl, -, -, -⟩ := ho.form
  clear hp ho hc1 hg1 hb1 HC0 HT0 HG0 HS0
  go_wp2_with fail
  generalize w1.alloc (.cells #[.int .i64 n, .slice Y0 xs.length cy0] 25) = w2 at *
  generalize w1.heap.size = bt at *
  go_wp2_with fail
  refine (l01Once_any lo w2 g cv 3 3 rfl (by omega) (by omega) HD1.out.cur).mono ?_
  rintro e w3 ⟨b, rfl, hc3, hg3⟩
  have HD := Lib.hid (HD1.out.cursor hgw hbt hc3 hg3)
  clear hc3 hg3 HD1
  rcases b with _ | _
  · as_aux_lemma =>
      obtain ⟨sl, xs, hp, hx, ho, hne⟩ := HD.out.tour
      obtain ⟨Y, cy, rfl, -, -, -⟩ := ho.form
      have HP := Lib.hid hp
      have y0 := hx.1.1
      have y1 := hx.1.2
      have t0 := HD.out.box.1.1
      have t1 := HD.out.box.1.2
      have f0 := HD.out.box.2 0
      have f1 := HD.out.box.2 1
      have HO' := Lib.hid ((ho.kept (setCell_grown _ ⟨w.heap.size, 0, none⟩ (.int .i64 n)) (own_ne (fun k hk => (ho.lt k hk).1) (by show w.heap.size < w.heap.size + 1; omega))).kept (setCell_grown _ ⟨w.heap.size, 1, none⟩ (.slice Y xs.length cy)) (own_ne (fun k hk => (ho.lt k hk).1) (by show w.heap.size < w.heap.size + 1; omega)))
      have HG' := Lib.hid (grown_newC (grown_newC HD.out.grown (setCell_grown _ ⟨w.heap.size, 0, none⟩ (.int .i64 n)) (fun k hk => by simp at hk; omega)) (setCell_grown _ ⟨w.heap.size, 1, none⟩ (.slice Y xs.length cy)) (fun k hk => by simp at hk; omega))
      have R0 : Hid (((w3.setCell ⟨w.heap.size, 0, none⟩ (.int .i64 n)).setCell ⟨w.heap.size, 1, none⟩ (.slice Y xs.length cy)).cell? ⟨w.heap.size, 0, none⟩ = some (.int .i64 n)) := (World.cell?_setCell_other _ _ _ _ (by simp)).trans (World.cell?_setCell_same _ _ _ t0)
      have R1 : Hid (((w3.setCell ⟨w.heap.size, 0, none⟩ (.int .i64 n)).setCell ⟨w.heap.size, 1, none⟩ (.slice Y xs.length cy)).cell? ⟨w.heap.size, 1, none⟩ = some (.slice Y xs.length cy)) := World.cell?_setCell_same _ _ _ ((World.cell?_setCell_other _ _ _ _ (by simp)).trans t1)
      clear ho hx hne hp
      go_wp2
      have r0 := R0.out
      have r1 := R1.out
      refine bodyPost_ret (v := .agg #[.int .i64 n, .slice Y xs.length cy]) (by simp only [results, Tryd.results53]; simp [go_sem, r0, r1]) rfl ⟨n, _, xs, rfl, hnm, HP.out, HO'.out.mono (by omega), HG'.out⟩
  · as_aux_lemma =>
      have hgb : g ≠ bt := by omega
      obtain ⟨slo, xso, -, hxo, -, -⟩ := HD.out.tour
      have y0 := hxo.1.1
      have HDD := Lib.hid HD.out.drew
      clear hxo
      go_wp2_with fail
      go_region_held3 (fun W => W.cell? ⟨bt, 0, none⟩ = some (.int .i64 n))
        (first | exact y0 | exact y4 | exact y5 | exact y6 | exact y7)
        (first
          | (go_at_call 84; refine (l02Of_any n hn1 (by omega) 268435455 w3.drew).mono ?_; rintro e w4 ⟨s4, x4, rfl, hp4, ho4, hb4⟩; have HD4 := Lib.hid (HDD.out.below hb4); have HO4 := Lib.hid ho4; have HP4 := Lib.hid hp4; have y4 := (hb4.cell (p := ⟨bt, 0, none⟩) (World.block_lt_of_cell? w3 _ y0)).trans y0; clear ho4 hp4 hb4)
          | (go_at_call 54; refine (l02Order_any lo w4 g cv n (by omega) HD4.out.cur).mono ?_; rintro e w5 ⟨v5, ns, rfl, hP5, ho5, hc5, hg5⟩; have HD5 := Lib.hid (HD4.out.cursor hgw hbt hc5 hg5); have HO45 := Lib.hid (HO4.out.kept hg5 (own_ne (fun k hk => (HO4.out.lt k hk).1) (by have := HD.out.grown.size; exact Nat.lt_of_lt_of_le hgw this))); have HO5 := Lib.hid ho5; have HPP := Lib.hid hP5; have y5 := (World.cell?_of_block (hg5.block bt (World.block_lt_of_cell? w4 _ y4) (by simp; omega))).trans y4; clear ho5 hP5 hc5 hg5)
          | (go_at_call 83; refine (l02Rename_any n s4 x4 ns v5 w5 HO45.out.rd HP4.out HO5.out.rd (by have h1 := HP4.out.2.1; rw [show x4.length = n by omega]; exact HPP.out)).mono ?_; rintro e w6 ⟨s6, rfl, ho6, -, hb6⟩; have HD6 := Lib.hid (HD5.out.below hb6); have HT6 := Lib.hid (rn_tour HP4.out (by have h1 := HP4.out.2.1; rw [show x4.length = n by omega]; exact HPP.out : PermP x4.length ns)); obtain ⟨Y6, cy6, rfl, -, -, -⟩ := ho6.form; have HO6 := Lib.hid ho6; have y6 := (hb6.cell (p := ⟨bt, 0, none⟩) (World.block_lt_of_cell? w5 _ y5)).trans y5; obtain ⟨s9, x9, -, hx9, -, -⟩ := HD6.out.tour; have v0 := hx9.1.1; have v1 := hx9.1.2; have f0 := hx9.2 0; have f1 := hx9.2 1; have y7 : ((w6.setCell ⟨bt, 0, none⟩ (.int .i64 n)).setCell ⟨bt, 1, none⟩ (.slice Y6 (rnL x4 ns).length cy6)).cell? ⟨bt, 0, none⟩ = some (.int .i64 n) := (World.cell?_setCell_other _ _ _ _ (by simp)).trans (World.cell?_setCell_same _ _ _ v0); clear ho6 hb6 hx9))
      have hb5 : bt < w5.heap.size := by
        obtain ⟨_, _, _, hx5, _, _⟩ := HD5.out.tour
        exact hx5.gt
      have HD7 := Lib.hid (HD6.out.put hgw hbt HT6.out (HO6.out.mono (by omega)) (fun k hk => by have := (HO6.out.lt k hk).1; omega))
      clear HD HDD HD4 HO4 HP4 HD5 HO45 HO5 HPP HD6 HT6 HO6 y0 y4 y5 y6 y7 v0 v1 f0 f1 hb5
      generalize (w6.setCell ⟨bt, 0, none⟩ (.int .i64 n)).setCell ⟨bt, 1, none⟩ (.slice Y6 (rnL x4 ns).length cy6) = w7 at *
      go_wp2_with fail
      refine (l01Below_lit lo w7 g cv 3 3 rfl (by omega) (by omega) HD7.out.cur).mono ?_
      rintro e w8 ⟨k8, rfl, hk8, hc8, hg8⟩
      have HD8 := Lib.hid (HD7.out.cursor hgw hbt hc8 hg8)
      clear hc8 hg8 HD7
      go_wp2
      go_loopw [6] (fun t6 wr => ∃ k : Nat, k ≤ 2 ∧ t6 = .int .i64 k ∧ Hid (DrT w wr g bt lo n cv)) (fun t6 _ => (intOf t6).toNat)
      case atStart => exact ⟨k8, by omega, rfl, HD8⟩
      case round =>
        obtain ⟨wo, rfl⟩ : ∃ x, x = wr := ⟨_, rfl⟩
        obtain ⟨k, hk, rfl, HD⟩ := hrel
        clear HD8
        by_cases hgo : 0 < k ∧ 1 < n
        · as_aux_lemma =>
            obtain ⟨hk0, hn2⟩ := hgo
            obtain ⟨k, rfl⟩ : ∃ j, k = j + 1 := ⟨k - 1, by omega⟩
            obtain ⟨slo, xso, -, hxo, -, -⟩ := HD.out.tour
            have y0 := hxo.1.1
            have hn2i : (1 : Int) < (n : Int) := by omega
            clear hxo
            go_wp2_with fail
            refine (l01Below_any lo wo g cv n hn1 (by omega) HD.out.cur).mono ?_
            rintro e w9 ⟨a, rfl, ha, hc9, hg9⟩
            have HD9 := Lib.hid (HD.out.cursor hgw hbt hc9 hg9)
            clear hc9 hg9 HD y0
            obtain ⟨sl, xs, hp, hx, ho, -⟩ := HD9.out.tour
            obtain ⟨Y, cy, rfl, -, -, -⟩ := ho.form
            have y0 := hx.1.1
            have y1 := hx.1.2
            have hxl : xs.length = n := by have := hp.2.1; omega
            have HXL := Lib.hid hxl
            have HP := Lib.hid hp
            have HOX := Lib.hid ho
            have HDD := Lib.hid HD9.out.drew
            have hbt9 := World.block_lt_of_cell? w9 _ y0
            have hEB : ∀ (args : Array Value) (W : World), (callFunc 85 args).run Tryd.prog W = .ok (.enter 85 args) W := fun args W => by kernel_rfl
            have hEF : ∀ (args : Array Value) (W : World), (callFunc 86 args).run Tryd.prog W = .ok (.enter 86 args) W := fun args W => by kernel_rfl
            have e4 : IntKind.i64.wrap ((n : Int) - 1) = ((n - 1 : Nat) : Int) := by rw [IntWalk.i64_in _ (by omega)]; omega
            have hCn : (n : Int) ≠ 0 := by omega
            have hCz : n ≠ 0 := by omega
            have hCz2 : ¬ n = 0 := by omega
            rw [hxl] at y1 HOX
            clear hp hx ho hxl
            go_wp2_with fail
            refine wp_region_heldT 14 (fun W => W.cell? ⟨bt, 0, none⟩ = some (.int .i64 n) ∧ W.cell? ⟨bt, 1, none⟩ = some (.slice Y n cy)) (by kernel_rfl) (by kernel_rfl) ⟨y0, y1⟩ (fun hS0 => ?_)
            refine GoT.take (i := 0) (v := ?v0_1) rfl (by kernel_rfl) (by rfl) (by kernel_rfl) (by kernel_rfl) (fun _ _ _ h => h) (Or.inl ⟨by rfl, ?hy0_1⟩) hS0 ?rest0_1
            case hy0_1 =>
              intro W hSw
              (try dsimp only at hSw)
              go_simp
              first | done | (with_reducible rfl)
            try simp only [Act.put, List.setIfInBounds_toArray, List.set_cons_zero, List.set_cons_succ]
            refine GoT.take (i := 1) (v := ?v1_2) rfl (by kernel_rfl) (by rfl) (by kernel_rfl) (by kernel_rfl) (fun _ _ _ h => h) (Or.inl ⟨by rfl, ?hy1_2⟩) hS0 ?rest1_2
            case hy1_2 =>
              intro W hSw
              (try dsimp only at hSw)
              go_simp
              first | done | (with_reducible rfl)
            try simp only [Act.put, List.setIfInBounds_toArray, List.set_cons_zero, List.set_cons_succ]
            refine GoT.take (i := 2) (v := ?v2_3) rfl (by kernel_rfl) (by rfl) (by kernel_rfl) (by kernel_rfl) (fun _ _ _ h => h) (Or.inl ⟨by rfl, ?hy2_3⟩) hS0 ?rest2_3
            case hy2_3 =>
              intro W hSw
              (try dsimp only at hSw)
              go_simp
              first | done | (with_reducible rfl)
            try simp only [Act.put, List.setIfInBounds_toArray, List.set_cons_zero, List.set_cons_succ]
            refine GoT.take (i := 3) (v := ?v3_4) rfl (by kernel_rfl) (by rfl) (by kernel_rfl) (by kernel_rfl) (fun _ _ _ h => h) (Or.inl ⟨by rfl, ?hy3_4⟩) hS0 ?rest3_4
            case hy3_4 =>
              intro W hSw
              (try dsimp only at hSw)
              go_simp
              first | done | (with_reducible rfl)
            try simp only [Act.put, List.setIfInBounds_toArray, List.set_cons_zero, List.set_cons_succ]
            refine GoT.take (i := 4) (v := ?v4_5) rfl (by kernel_rfl) (by rfl) (by kernel_rfl) (by kernel_rfl) (fun _ _ _ h => h) (Or.inl ⟨by rfl, ?hy4_5⟩) hS0 ?rest4_5
            case hy4_5 =>
              intro W hSw
              (try dsimp only at hSw)
              go_simp
              first | done | (with_reducible rfl)
            try simp only [Act.put, List.setIfInBounds_toArray, List.set_cons_zero, List.set_cons_succ]
            refine GoT.take (i := 5) (v := ?v5_6) rfl (by kernel_rfl) (by rfl) (by kernel_rfl) (by kernel_rfl) (fun _ _ _ h => h) (Or.inl ⟨by rfl, ?hy5_6⟩) hS0 ?rest5_6
            case hy5_6 =>
              intro W hSw
              (try dsimp only at hSw)
              go_simp
              first | done | (with_reducible rfl)
            try simp only [Act.put, List.setIfInBounds_toArray, List.set_cons_zero, List.set_cons_succ]
            refine GoT.take (i := 6) (v := ?v6_7) rfl (by kernel_rfl) (by rfl) (by kernel_rfl) (by kernel_rfl) (fun _ _ _ h => h) (Or.inl ⟨by rfl, ?hy6_7⟩) hS0 ?rest6_7
            case hy6_7 =>
              intro W hSw
              (try dsimp only at hSw)
              go_simp
              first | done | (with_reducible rfl)
            try simp only [Act.put, List.setIfInBounds_toArray, List.set_cons_zero, List.set_cons_succ]
            refine GoT.take (i := 7) (v := ?v7_8) rfl (by kernel_rfl) (by rfl) (by kernel_rfl) (by kernel_rfl) (fun _ _ _ h => h) (Or.inl ⟨by rfl, ?hy7_8⟩) hS0 ?rest7_8
            case hy7_8 =>
              intro W hSw
              (try dsimp only at hSw)
              go_simp
              first | done | (with_reducible rfl)
            try simp only [Act.put, List.setIfInBounds_toArray, List.set_cons_zero, List.set_cons_succ]
            refine GoT.take (i := 10) (v := ?v10_9) rfl (by kernel_rfl) (by rfl) (by kernel_rfl) (by kernel_rfl) (fun _ _ _ h => h) (Or.inl ⟨by rfl, ?hy10_9⟩) hS0 ?rest10_9
            case hy10_9 =>
              intro W hSw
              (try dsimp only at hSw)
              go_simp
              first | done | (with_reducible rfl)
            try simp only [Act.put, List.setIfInBounds_toArray, List.set_cons_zero, List.set_cons_succ]
            refine GoT.take (i := 11) (v := ?v11_10) rfl (by kernel_rfl) (by rfl) (by kernel_rfl) (by kernel_rfl) (fun _ _ _ h => h) (Or.inl ⟨by rfl, ?hy11_10⟩) hS0 ?rest11_10
            case hy11_10 =>
              intro W hSw
              (try dsimp only at hSw)
              go_simp
              first | done | (with_reducible rfl)
            try simp only [Act.put, List.setIfInBounds_toArray, List.set_cons_zero, List.set_cons_succ]
            refine GoT.one (i := 8) rfl (by rfl) (by kernel_rfl) (fun K hK => ?_)
            refine step_call w9.drew (by rfl) 85 #[.tmp 40, .tmp 43] _ (by rfl) #[.pointer (some ⟨g, 0, none⟩), .int .i64 ((n - 1 : Nat) : Int)] (by simp [Act.eval, e4]) hEB ((l01Below_any lo w9.drew g cv (n - 1) (by omega) (by omega) HDD.out.cur).mono ?_)
            rintro e w10 ⟨y, rfl, hy, hc10, hg10⟩
            refine ⟨_, rfl, ?_⟩
            have HD10 := Lib.hid (HDD.out.cursor hgw hbt hc10 hg10)
            have z0 := (World.cell?_of_block (hg10.block bt hbt9 (by simp; omega))).trans y0
            have z1 := (World.cell?_of_block (hg10.block bt hbt9 (by simp; omega))).trans y1
            have HO10 := Lib.hid (show Own w10 (w.heap.size + 1) (.slice Y n cy) xs from (show Own w9.drew (w.heap.size + 1) (.slice Y n cy) xs from HOX.out).kept hg10 (own_ne (fun k hk => (HOX.out.lt k hk).1) (by omega)))
            obtain ⟨b, hb, hbC, hba⟩ := other_ex ha hy
            have hr : Int.tmod (IntKind.i64.wrap (IntKind.i64.wrap ((a : Int) + 1) + (y : Int))) (n : Int) = (b : Int) := by
              rw [IntWalk.i64_in ((a : Int) + 1) (by omega), IntWalk.i64_in ((a : Int) + 1 + (y : Int)) (by omega)]; exact hb
            clear hc10 hg10
            refine hK.out _ _ ⟨z0, z1⟩ (fun hS1 => ?_)
            clear hK K
            simp only [Act.put, List.setIfInBounds_toArray, List.set_cons_zero, List.set_cons_succ]
            refine GoT.take (i := 9) (v := ?v9_11) rfl (by kernel_rfl) (by rfl) (by kernel_rfl) (by kernel_rfl) (fun _ _ _ h => h) (Or.inl ⟨by rfl, ?hy9_11⟩) hS1 ?rest9_11
            case hy9_11 =>
              intro W hSw
              (try dsimp only at hSw)
              go_simp
              first | done | (with_reducible rfl)
            try simp only [Act.put, List.setIfInBounds_toArray, List.set_cons_zero, List.set_cons_succ]
            refine GoT.take (i := 12) (v := ?v12_12) rfl (by kernel_rfl) (by rfl) (by kernel_rfl) (by kernel_rfl) (fun _ _ _ h => h) (Or.inl ⟨by rfl, ?hy12_12⟩) hS1 ?rest12_12
            case hy12_12 =>
              intro W hSw
              (try dsimp only at hSw)
              go_simp
              first | done | (with_reducible rfl)
            try simp only [Act.put, List.setIfInBounds_toArray, List.set_cons_zero, List.set_cons_succ]
            refine GoT.one (i := 13) rfl (by rfl) (by kernel_rfl) (fun K hK => ?_)
            refine step_call w10 (by rfl) 86 #[.tmp 36, .tmp 37, .tmp 48] _ (by rfl) #[.agg #[.int .i64 n, .slice Y n cy], .int .i64 a, .int .i64 b] (by simp [Act.eval, hr]) hEF ((l02Flip_any n (.slice Y n cy) xs a b w10 HO10.out.rd (by have := HXL.out; omega) (by have := HXL.out; omega) (by have := HXL.out; omega)).mono ?_)
            rintro e w11 ⟨s11, rfl, ho11, hb11⟩
            refine ⟨_, rfl, ?_⟩
            have HD11 := Lib.hid (HD10.out.below hb11)
            have HT11 := Lib.hid (flip_tour HP.out (a := a) (b := b) (by have := HXL.out; omega) (by have := HXL.out; omega) (Ne.symm hba))
            obtain ⟨Y11, cy11, rfl, -, -, -⟩ := ho11.form
            have HO11 := Lib.hid ho11
            obtain ⟨s12, x12, -, hx12, -, -⟩ := HD11.out.tour
            have v0 := hx12.1.1
            have v1 := hx12.1.2
            have f0 := hx12.2 0
            have f1 := hx12.2 1
            have hbt10 := World.block_lt_of_cell? w10 _ z0
            have z2 := (hb11.cell (p := ⟨bt, 0, none⟩) hbt10).trans z0
            have z3 := (hb11.cell (p := ⟨bt, 1, none⟩) hbt10).trans z1
            clear ho11 hb11 hx12
            refine hK.out _ _ ⟨z2, z3⟩ (fun _ => ?_)
            clear hK K hS0 hS1
            simp only [Act.put, List.setIfInBounds_toArray, List.set_cons_zero, List.set_cons_succ]
            refine GoT.stop (by kernel_rfl) ?_
            have hbt11 : bt < w10.heap.size := hbt10
            have HD12 := Lib.hid (HD11.out.put hgw hbt HT11.out (HO11.out.mono (by omega)) (fun k hk => by have := (HO11.out.lt k hk).1; omega))
            clear HD9 HP HOX HDD HD10 HO10 HD11 HT11 HO11 hr z0 z1 z2 z3 y0 y1
            simp only [List.drop_succ_cons, List.drop_zero]
            go_wp2
            go_roundw
            case rel => exact ⟨k, by omega, rfl, HD12⟩
            case measure => simp [intOf]
        · as_aux_lemma =>
            obtain ⟨slo, xso, -, hxo, -, -⟩ := HD.out.tour
            have y0 := hxo.1.1
            clear hxo
            rcases Nat.eq_zero_or_pos k with hk0 | hk0
            · subst hk0
              clear y0
              obtain ⟨sl, xs, hp, hx, ho, hne⟩ := HD.out.tour
              obtain ⟨Y, cy, rfl, -, -, -⟩ := ho.form
              have HP := Lib.hid hp
              have y0 := hx.1.1
              have y1 := hx.1.2
              have t0 := HD.out.box.1.1
              have t1 := HD.out.box.1.2
              have f0 := HD.out.box.2 0
              have f1 := HD.out.box.2 1
              have HO' := Lib.hid ((ho.kept (setCell_grown _ ⟨w.heap.size, 0, none⟩ (.int .i64 n)) (own_ne (fun k hk => (ho.lt k hk).1) (by show w.heap.size < w.heap.size + 1; omega))).kept (setCell_grown _ ⟨w.heap.size, 1, none⟩ (.slice Y xs.length cy)) (own_ne (fun k hk => (ho.lt k hk).1) (by show w.heap.size < w.heap.size + 1; omega)))
              have HG' := Lib.hid (grown_newC (grown_newC HD.out.grown (setCell_grown _ ⟨w.heap.size, 0, none⟩ (.int .i64 n)) (fun k hk => by simp at hk; omega)) (setCell_grown _ ⟨w.heap.size, 1, none⟩ (.slice Y xs.length cy)) (fun k hk => by simp at hk; omega))
              have R0 : Hid (((wo.setCell ⟨w.heap.size, 0, none⟩ (.int .i64 n)).setCell ⟨w.heap.size, 1, none⟩ (.slice Y xs.length cy)).cell? ⟨w.heap.size, 0, none⟩ = some (.int .i64 n)) := (World.cell?_setCell_other _ _ _ _ (by simp)).trans (World.cell?_setCell_same _ _ _ t0)
              have R1 : Hid (((wo.setCell ⟨w.heap.size, 0, none⟩ (.int .i64 n)).setCell ⟨w.heap.size, 1, none⟩ (.slice Y xs.length cy)).cell? ⟨w.heap.size, 1, none⟩ = some (.slice Y xs.length cy)) := World.cell?_setCell_same _ _ _ ((World.cell?_setCell_other _ _ _ _ (by simp)).trans t1)
              clear ho hx hne hp
              go_wp2
              have r0 := R0.out
              have r1 := R1.out
              refine bodyPost_ret (v := .agg #[.int .i64 n, .slice Y xs.length cy]) (by simp only [results, Tryd.results53]; simp [go_sem, r0, r1]) rfl ⟨n, _, xs, rfl, hnm, HP.out, HO'.out.mono (by omega), HG'.out⟩
            · have hn2 : ¬ 1 < n := by omega
              have hn2i : decide ((1 : Int) < (n : Int)) = false := by simp; omega
              have hn2j : decide (1 < n) = false := by simp; omega
              have hk1 : (0 : Int) < (k : Int) := by omega
              clear y0
              obtain ⟨sl, xs, hp, hx, ho, hne⟩ := HD.out.tour
              obtain ⟨Y, cy, rfl, -, -, -⟩ := ho.form
              have HP := Lib.hid hp
              have y0 := hx.1.1
              have y1 := hx.1.2
              have t0 := HD.out.box.1.1
              have t1 := HD.out.box.1.2
              have f0 := HD.out.box.2 0
              have f1 := HD.out.box.2 1
              have HO' := Lib.hid ((ho.kept (setCell_grown _ ⟨w.heap.size, 0, none⟩ (.int .i64 n)) (own_ne (fun k hk => (ho.lt k hk).1) (by show w.heap.size < w.heap.size + 1; omega))).kept (setCell_grown _ ⟨w.heap.size, 1, none⟩ (.slice Y xs.length cy)) (own_ne (fun k hk => (ho.lt k hk).1) (by show w.heap.size < w.heap.size + 1; omega)))
              have HG' := Lib.hid (grown_newC (grown_newC HD.out.grown (setCell_grown _ ⟨w.heap.size, 0, none⟩ (.int .i64 n)) (fun k hk => by simp at hk; omega)) (setCell_grown _ ⟨w.heap.size, 1, none⟩ (.slice Y xs.length cy)) (fun k hk => by simp at hk; omega))
              have R0 : Hid (((wo.setCell ⟨w.heap.size, 0, none⟩ (.int .i64 n)).setCell ⟨w.heap.size, 1, none⟩ (.slice Y xs.length cy)).cell? ⟨w.heap.size, 0, none⟩ = some (.int .i64 n)) := (World.cell?_setCell_other _ _ _ _ (by simp)).trans (World.cell?_setCell_same _ _ _ t0)
              have R1 : Hid (((wo.setCell ⟨w.heap.size, 0, none⟩ (.int .i64 n)).setCell ⟨w.heap.size, 1, none⟩ (.slice Y xs.length cy)).cell? ⟨w.heap.size, 1, none⟩ = some (.slice Y xs.length cy)) := World.cell?_setCell_same _ _ _ ((World.cell?_setCell_other _ _ _ _ (by simp)).trans t1)
              clear ho hx hne hp
              go_wp2
              have r0 := R0.out
              have r1 := R1.out
              refine bodyPost_ret (v := .agg #[.int .i64 n, .slice Y xs.length cy]) (by simp only [results, Tryd.results53]; simp [go_sem, r0, r1]) rfl ⟨n, _, xs, rfl, hnm, HP.out, HO'.out.mono (by omega), HG'.out⟩
end Go.Proofs.YtbkiedhaacapbaaDoor

