/- Texts put together: Draw5, MkT, TgL, SymP, SortM, SortR. -/
import Derived.Test.YthoodjjjklbggaaGreatDoorMTriangles17
import Derived.Test.YthoodjjjklbggaaGreatDoorMTriangles07
import Derived.Test.YthoodjjjklbggaaGreatDoorMTriangles06
import Derived.Test.YthoodjjjklbggaaGreatDoorMTriangles18
import Derived.Test.YthoodjjjklbggaaGreatDoorMTriangles10
import Derived.Test.YthoodjjjklbggaaGreatDoorMTriangles09
import Derived.Deep.RegionHeld3
import Derived.Deep.DeepCutAuto
import Derived.Test.YthoodjjjklbggaaGreatDoorMTriangles12
import Derived.Test.YthoodjjjklbggaaGreatDoorMTriangles15
import Derived.Test.YthoodjjjklbggaaGreatDoorMTriangles01
import Derived.Test.YthoodjjjklbggaaGreatDoorMTriangles02
import Derived.Test.YthoodjjjklbggaaGreatDoorMTriangles11
namespace Go.Proofs.YthoodjjjklbggaaGreatDoor
open Go.RowKit Go.Sort
set_option maxRecDepth 100000
set_option maxHeartbeats 2000000 in
theorem l01Once_any (lo : Nat) (w : World) (g : Nat) (v : Value) (k : Int) (n : Nat) (hk : k = n) (hn : 1 ≤ n) (hn2 : n ≤ 256) (hc : CurB lo w g v) :
    Calls Tryz.prog 51 #[.pointer (some ⟨g, 0, none⟩), .int .i64 k] w fun e w' => ∃ b : Bool, e = .returned (.bool b) ∧ CurB lo w' g v ∧ w.grownBy w' (some g) := by
  subst hk
  have HC := Lib.hid hc
  clear hc
  go_enter Tryz.func51, Tryz.ntmps51
  go_wp2_with fail
  refine (l01Below_any lo _ g v n hn hn2 HC.out).mono ?_
  rintro e w1 ⟨x, rfl, hx, hc1, hg1⟩
  have HC1 := Lib.hid hc1
  have HG1 := Lib.hid hg1
  clear hc1 hg1
  rcases Nat.eq_zero_or_pos x with h0 | h0
  · subst h0
    go_wp2
    go_ret
    exact ⟨true, rfl, HC1.out, HG1.out⟩
  · have hx0 : ((x : Int) == 0) = false := by simp; omega
    have hx1 : (x == 0) = false := by simp; omega
    go_wp2
    go_ret
    exact ⟨false, ret_bool (by first | rfl | (simp; omega)), HC1.out, HG1.out⟩
/-- the tour that is being drawn, in its box -/
structure DrT (w W : World) (g bt lo n : Nat) (cv : Value) : Prop where
  tour : ∃ sl xs, tourP n xs ∧ BoxF W bt n sl ∧ Own W (w.heap.size + 1) sl xs ∧ ∀ k, sl.ownBlock = some k → k ≠ bt
  box : BoxF W w.heap.size 0 (.slice none 0 0)
  cur : CurB lo W g cv
  grown : w.grownBy W (some g)
theorem DrT.cursor {w W W' : World} {g bt lo n : Nat} {cv : Value} (h : DrT w W g bt lo n cv) (hgw : g < w.heap.size) (hb : w.heap.size < bt) (hc : CurB lo W' g cv) (hg : W.grownBy W' (some g)) : DrT w W' g bt lo n cv := by
  obtain ⟨sl, xs, h1, h2, h3, h4⟩ := h.tour
  exact ⟨⟨sl, xs, h1, h2.kept hg (by simp; omega), h3.kept hg (own_ne (fun k hk => (h3.lt k hk).1) (by omega)), h4⟩, h.box.kept hg (by simp; omega), hc, h.grown.trans hg⟩
/-- a new tour goes into the box -/
theorem DrT.put {w W : World} {g bt lo n n' : Nat} {cv sl : Value} {xs : List Int} (h : DrT w W g bt lo n cv) (hgw : g < w.heap.size) (hb : w.heap.size < bt) (hp : tourP n' xs) (ho : Own W (w.heap.size + 1) sl xs) (hne : ∀ k, sl.ownBlock = some k → k ≠ bt) :
    DrT w ((W.setCell ⟨bt, 0, none⟩ (.int .i64 n')).setCell ⟨bt, 1, none⟩ sl) g bt lo n' cv := by
  obtain ⟨sl0, xs0, h1, h2, h3, h4⟩ := h.tour
  have g1 : W.grownBy (W.setCell ⟨bt, 0, none⟩ (.int .i64 n')) (some bt) := setCell_grown _ ⟨bt, 0, none⟩ _
  have g2 : (W.setCell ⟨bt, 0, none⟩ (.int .i64 n')).grownBy ((W.setCell ⟨bt, 0, none⟩ (.int .i64 n')).setCell ⟨bt, 1, none⟩ sl) (some bt) := setCell_grown _ ⟨bt, 1, none⟩ _
  have hn : sl.ownBlock = none ∨ sl.ownBlock ≠ some bt := by
    rcases q : sl.ownBlock with _ | k
    · exact .inl rfl
    · right; intro e; injection e with e; exact hne k q e
  exact ⟨⟨sl, xs, hp, h2.set01 n' sl, (ho.kept g1 hn).kept g2 hn, hne⟩, (h.box.kept g1 (by simp; omega)).kept g2 (by simp; omega), (h.cur.kept g1 (fun k hk => by injection hk with hk; have := h.cur.le; have := h.cur.lt; omega)).kept g2 (fun k hk => by injection hk with hk; have := h.cur.le; have := h.cur.lt; omega), grown_newC (grown_newC h.grown g1 (fun k hk => by injection hk with hk; omega)) g2 (fun k hk => by injection hk with hk; omega)⟩
theorem DrT.below {w W W' : World} {g bt lo n : Nat} {cv : Value} (h : DrT w W g bt lo n cv) (hb : Below W.heap.size W W') : DrT w W' g bt lo n cv := by
  obtain ⟨sl, xs, h1, h2, h3, h4⟩ := h.tour
  exact ⟨⟨sl, xs, h1, h2.below hb, h3.below hb, h4⟩, h.box.below hb, h.cur.below hb, grown_belowC h.grown (Below.mono hb h.grown.size)⟩
theorem DrT.drew {w W : World} {g bt lo n : Nat} {cv : Value} (h : DrT w W g bt lo n cv) : DrT w W.drew g bt lo n cv := by
  obtain ⟨sl, xs, h1, h2, h3, h4⟩ := h.tour
  exact ⟨⟨sl, xs, h1, h2, h3, h4⟩, h.box, h.cur.drew, ⟨h.grown.os, h.grown.tape, h.grown.output, h.grown.size, h.grown.block⟩⟩
set_option maxHeartbeats 8000000 in
theorem l05Draw_any (lo : Nat) (w : World) (g : Nat) (cv : Value) (most : Nat) (hm1 : 1 ≤ most) (hm8 : most ≤ 8) (hc : CurB lo w g cv) :
    Calls Tryz.prog 21 #[.pointer (some ⟨g, 0, none⟩), .int .i64 most] w fun e w' => ∃ (n : Nat) (sl : Value) (xs : List Int), e = .returned (.agg #[.int .i64 n, sl]) ∧ n ≤ most ∧ tourP n xs ∧ Own w' w.heap.size sl xs ∧ w.grownBy w' (some g) := by
  have hgw := hc.lt
  have hrb : w.heap.size ≠ g := by omega
  have HC0 := Lib.hid (hc.below (below_alloc1 w (.cells #[.int .i64 0, .slice none 0 0] 25)))
  have HT0 := Lib.hid (BoxF.new w 0 (.slice none 0 0) 25)
  have hsz0 : (w.alloc (.cells #[.int .i64 0, .slice none 0 0] 25)).heap.size = w.heap.size + 1 := by simp
  have HG0 : Hid (w.grownBy (w.alloc (.cells #[.int .i64 0, .slice none 0 0] 25)) (some g)) := Lib.hid (grown_belowC ⟨rfl, rfl, rfl, Nat.le_refl _, fun _ _ _ => rfl⟩ (below_alloc1 _ _))
  have HS0 := Lib.hid hsz0
  clear hc hsz0
  go_enter Tryz.func21, Tryz.ntmps21
  go_wp2_with fail
  generalize w.alloc (.cells #[.int .i64 0, .slice none 0 0] 25) = w0 at *
  go_wp2_with fail
  refine (l02Draw_any lo w0 g cv most hm1 hm8 HC0.out).mono ?_
  rintro e w1 ⟨n, sl, xs, rfl, hnm, hp, ho, hc1, hg1⟩
  have hb1 := below_alloc1 w1 (.cells #[.int .i64 n, sl] 25)
  have hbt : w.heap.size < w1.heap.size := Nat.lt_of_lt_of_le HT0.out.gt hg1.size
  have hn1 : 1 ≤ n := by have := hp.1; omega
  have HD1 : Hid (DrT w (w1.alloc (.cells #[.int .i64 n, sl] 25)) g w1.heap.size lo n cv) := Lib.hid ⟨⟨sl, xs, hp, BoxF.new w1 n sl 25, (ho.below hb1).mono (Nat.le_of_eq HS0.out.symm), fun k hk => by have := (ho.lt k hk).2; omega⟩, (HT0.out.kept hg1 (by simpa using hrb)).below hb1, hc1.below hb1, grown_belowC (HG0.out.trans hg1) (Below.mono hb1 (Nat.le_of_lt hbt))⟩
  obtain ⟨Y0, cy0, rfl, -, -, -⟩ := ho.form
  clear hp ho hc1 hg1 hb1 HC0 HT0 HG0 HS0
  go_wp2_with fail
  generalize w1.alloc (.cells #[.int .i64 n, .slice Y0 xs.length cy0] 25) = w2 at *
  generalize w1.heap.size = bt at *
  go_wp2_with fail
  refine (l01Once_any lo w2 g cv 3 3 rfl (by omega) (by omega) HD1.out.cur).mono ?_
  rintro e w3 ⟨b, rfl, hc3, hg3⟩
  have HD := Lib.hid (HD1.out.cursor hgw hbt hc3 hg3)
  clear hc3 hg3 HD1
  rcases b with _ | _
  · as_aux_lemma =>
      obtain ⟨sl, xs, hp, hx, ho, hne⟩ := HD.out.tour
      obtain ⟨Y, cy, rfl, -, -, -⟩ := ho.form
      have HP := Lib.hid hp
      have y0 := hx.1.1
      have y1 := hx.1.2
      have t0 := HD.out.box.1.1
      have t1 := HD.out.box.1.2
      have f0 := HD.out.box.2 0
      have f1 := HD.out.box.2 1
      have HO' := Lib.hid ((ho.kept (setCell_grown _ ⟨w.heap.size, 0, none⟩ (.int .i64 n)) (own_ne (fun k hk => (ho.lt k hk).1) (by show w.heap.size < w.heap.size + 1; omega))).kept (setCell_grown _ ⟨w.heap.size, 1, none⟩ (.slice Y xs.length cy)) (own_ne (fun k hk => (ho.lt k hk).1) (by show w.heap.size < w.heap.size + 1; omega)))
      have HG' := Lib.hid (grown_newC (grown_newC HD.out.grown (setCell_grown _ ⟨w.heap.size, 0, none⟩ (.int .i64 n)) (fun k hk => by simp at hk; omega)) (setCell_grown _ ⟨w.heap.size, 1, none⟩ (.slice Y xs.length cy)) (fun k hk => by simp at hk; omega))
      have R0 : Hid (((w3.setCell ⟨w.heap.size, 0, none⟩ (.int .i64 n)).setCell ⟨w.heap.size, 1, none⟩ (.slice Y xs.length cy)).cell? ⟨w.heap.size, 0, none⟩ = some (.int .i64 n)) := (World.cell?_setCell_other _ _ _ _ (by simp)).trans (World.cell?_setCell_same _ _ _ t0)
      have R1 : Hid (((w3.setCell ⟨w.heap.size, 0, none⟩ (.int .i64 n)).setCell ⟨w.heap.size, 1, none⟩ (.slice Y xs.length cy)).cell? ⟨w.heap.size, 1, none⟩ = some (.slice Y xs.length cy)) := World.cell?_setCell_same _ _ _ ((World.cell?_setCell_other _ _ _ _ (by simp)).trans t1)
      clear ho hx hne hp
      go_wp2
      have r0 := R0.out
      have r1 := R1.out
      refine bodyPost_ret (v := .agg #[.int .i64 n, .slice Y xs.length cy]) (by simp only [results, Tryz.results21]; simp [go_sem, r0, r1]) rfl ⟨n, _, xs, rfl, hnm, HP.out, HO'.out.mono (by omega), HG'.out⟩
  · as_aux_lemma =>
      have hgb : g ≠ bt := by omega
      obtain ⟨slo, xso, -, hxo, -, -⟩ := HD.out.tour
      have y0 := hxo.1.1
      have HDD := Lib.hid HD.out.drew
      clear hxo
      go_wp2_with fail
      go_region_held3 (fun W => W.cell? ⟨bt, 0, none⟩ = some (.int .i64 n))
        (first | exact y0 | exact y4 | exact y5 | exact y6 | exact y7)
        (first
          | (go_at_call 53; refine (l02Of_any n hn1 (by omega) 268435455 w3.drew).mono ?_; rintro e w4 ⟨s4, x4, rfl, hp4, ho4, hb4⟩; have HD4 := Lib.hid (HDD.out.below hb4); have HO4 := Lib.hid ho4; have HP4 := Lib.hid hp4; have y4 := (hb4.cell (p := ⟨bt, 0, none⟩) (World.block_lt_of_cell? w3 _ y0)).trans y0; clear ho4 hp4 hb4)
          | (go_at_call 54; refine (l02Order_any lo w4 g cv n (by omega) HD4.out.cur).mono ?_; rintro e w5 ⟨v5, ns, rfl, hP5, ho5, hc5, hg5⟩; have HD5 := Lib.hid (HD4.out.cursor hgw hbt hc5 hg5); have HO45 := Lib.hid (HO4.out.kept hg5 (own_ne (fun k hk => (HO4.out.lt k hk).1) (by have := HD.out.grown.size; exact Nat.lt_of_lt_of_le hgw this))); have HO5 := Lib.hid ho5; have HPP := Lib.hid hP5; have y5 := (World.cell?_of_block (hg5.block bt (World.block_lt_of_cell? w4 _ y4) (by simp; omega))).trans y4; clear ho5 hP5 hc5 hg5)
          | (go_at_call 52; refine (l02Rename_any n s4 x4 ns v5 w5 HO45.out.rd HP4.out HO5.out.rd (by have h1 := HP4.out.2.1; rw [show x4.length = n by omega]; exact HPP.out)).mono ?_; rintro e w6 ⟨s6, rfl, ho6, -, hb6⟩; have HD6 := Lib.hid (HD5.out.below hb6); have HT6 := Lib.hid (rn_tour HP4.out (by have h1 := HP4.out.2.1; rw [show x4.length = n by omega]; exact HPP.out : PermP x4.length ns)); obtain ⟨Y6, cy6, rfl, -, -, -⟩ := ho6.form; have HO6 := Lib.hid ho6; have y6 := (hb6.cell (p := ⟨bt, 0, none⟩) (World.block_lt_of_cell? w5 _ y5)).trans y5; obtain ⟨s9, x9, -, hx9, -, -⟩ := HD6.out.tour; have v0 := hx9.1.1; have v1 := hx9.1.2; have f0 := hx9.2 0; have f1 := hx9.2 1; have y7 : ((w6.setCell ⟨bt, 0, none⟩ (.int .i64 n)).setCell ⟨bt, 1, none⟩ (.slice Y6 (rnL x4 ns).length cy6)).cell? ⟨bt, 0, none⟩ = some (.int .i64 n) := (World.cell?_setCell_other _ _ _ _ (by simp)).trans (World.cell?_setCell_same _ _ _ v0); clear ho6 hb6 hx9))
      have hb5 : bt < w5.heap.size := by
        obtain ⟨_, _, _, hx5, _, _⟩ := HD5.out.tour
        exact hx5.gt
      have HD7 := Lib.hid (HD6.out.put hgw hbt HT6.out (HO6.out.mono (by omega)) (fun k hk => by have := (HO6.out.lt k hk).1; omega))
      clear HD HDD HD4 HO4 HP4 HD5 HO45 HO5 HPP HD6 HT6 HO6 y0 y4 y5 y6 y7 v0 v1 f0 f1 hb5
      generalize (w6.setCell ⟨bt, 0, none⟩ (.int .i64 n)).setCell ⟨bt, 1, none⟩ (.slice Y6 (rnL x4 ns).length cy6) = w7 at *
      go_wp2_with fail
      refine (l01Below_lit lo w7 g cv 3 3 rfl (by omega) (by omega) HD7.out.cur).mono ?_
      rintro e w8 ⟨k8, rfl, hk8, hc8, hg8⟩
      have HD8 := Lib.hid (HD7.out.cursor hgw hbt hc8 hg8)
      clear hc8 hg8 HD7
      go_wp2
      go_loopw [6] (fun t6 wr => ∃ k : Nat, k ≤ 2 ∧ t6 = .int .i64 k ∧ Hid (DrT w wr g bt lo n cv)) (fun t6 _ => (intOf t6).toNat)
      case atStart => exact ⟨k8, by omega, rfl, HD8⟩
      case round =>
        obtain ⟨wo, rfl⟩ : ∃ x, x = wr := ⟨_, rfl⟩
        obtain ⟨k, hk, rfl, HD⟩ := hrel
        clear HD8
        by_cases hgo : 0 < k ∧ 1 < n
        · as_aux_lemma =>
            obtain ⟨hk0, hn2⟩ := hgo
            obtain ⟨k, rfl⟩ : ∃ j, k = j + 1 := ⟨k - 1, by omega⟩
            obtain ⟨slo, xso, -, hxo, -, -⟩ := HD.out.tour
            have y0 := hxo.1.1
            have hn2i : (1 : Int) < (n : Int) := by omega
            clear hxo
            go_wp2_with fail
            refine (l01Below_any lo wo g cv n hn1 (by omega) HD.out.cur).mono ?_
            rintro e w9 ⟨a, rfl, ha, hc9, hg9⟩
            have HD9 := Lib.hid (HD.out.cursor hgw hbt hc9 hg9)
            clear hc9 hg9 HD y0
            obtain ⟨sl, xs, hp, hx, ho, -⟩ := HD9.out.tour
            obtain ⟨Y, cy, rfl, -, -, -⟩ := ho.form
            have y0 := hx.1.1
            have y1 := hx.1.2
            have hxl : xs.length = n := by have := hp.2.1; omega
            have HXL := Lib.hid hxl
            have HP := Lib.hid hp
            have HOX := Lib.hid ho
            have HDD := Lib.hid HD9.out.drew
            have hbt9 := World.block_lt_of_cell? w9 _ y0
            have hEB : ∀ (args : Array Value) (W : World), (callFunc 37 args).run Tryz.prog W = .ok (.enter 37 args) W := fun args W => by kernel_rfl
            have hEF : ∀ (args : Array Value) (W : World), (callFunc 55 args).run Tryz.prog W = .ok (.enter 55 args) W := fun args W => by kernel_rfl
            have e4 : IntKind.i64.wrap ((n : Int) - 1) = ((n - 1 : Nat) : Int) := by rw [IntWalk.i64_in _ (by omega)]; omega
            have hCn : (n : Int) ≠ 0 := by omega
            have hCz : n ≠ 0 := by omega
            have hCz2 : ¬ n = 0 := by omega
            rw [hxl] at y1 HOX
            clear hp hx ho hxl
            go_wp2_with fail
            refine wp_region_heldT 14 (fun W => W.cell? ⟨bt, 0, none⟩ = some (.int .i64 n) ∧ W.cell? ⟨bt, 1, none⟩ = some (.slice Y n cy)) (by kernel_rfl) (by kernel_rfl) ⟨y0, y1⟩ (fun hS0 => ?_)
            refine GoT.take (i := 0) (v := ?v0_1) rfl (by kernel_rfl) (by rfl) (by kernel_rfl) (by kernel_rfl) (fun _ _ _ h => h) (Or.inl ⟨by rfl, ?hy0_1⟩) hS0 ?rest0_1
            case hy0_1 =>
              intro W hSw
              (try dsimp only at hSw)
              go_simp
              first | done | (with_reducible rfl)
            try simp only [Act.put, List.setIfInBounds_toArray, List.set_cons_zero, List.set_cons_succ]
            refine GoT.take (i := 1) (v := ?v1_2) rfl (by kernel_rfl) (by rfl) (by kernel_rfl) (by kernel_rfl) (fun _ _ _ h => h) (Or.inl ⟨by rfl, ?hy1_2⟩) hS0 ?rest1_2
            case hy1_2 =>
              intro W hSw
              (try dsimp only at hSw)
              go_simp
              first | done | (with_reducible rfl)
            try simp only [Act.put, List.setIfInBounds_toArray, List.set_cons_zero, List.set_cons_succ]
            refine GoT.take (i := 2) (v := ?v2_3) rfl (by kernel_rfl) (by rfl) (by kernel_rfl) (by kernel_rfl) (fun _ _ _ h => h) (Or.inl ⟨by rfl, ?hy2_3⟩) hS0 ?rest2_3
            case hy2_3 =>
              intro W hSw
              (try dsimp only at hSw)
              go_simp
              first | done | (with_reducible rfl)
            try simp only [Act.put, List.setIfInBounds_toArray, List.set_cons_zero, List.set_cons_succ]
            refine GoT.take (i := 3) (v := ?v3_4) rfl (by kernel_rfl) (by rfl) (by kernel_rfl) (by kernel_rfl) (fun _ _ _ h => h) (Or.inl ⟨by rfl, ?hy3_4⟩) hS0 ?rest3_4
            case hy3_4 =>
              intro W hSw
              (try dsimp only at hSw)
              go_simp
              first | done | (with_reducible rfl)
            try simp only [Act.put, List.setIfInBounds_toArray, List.set_cons_zero, List.set_cons_succ]
            refine GoT.take (i := 4) (v := ?v4_5) rfl (by kernel_rfl) (by rfl) (by kernel_rfl) (by kernel_rfl) (fun _ _ _ h => h) (Or.inl ⟨by rfl, ?hy4_5⟩) hS0 ?rest4_5
            case hy4_5 =>
              intro W hSw
              (try dsimp only at hSw)
              go_simp
              first | done | (with_reducible rfl)
            try simp only [Act.put, List.setIfInBounds_toArray, List.set_cons_zero, List.set_cons_succ]
            refine GoT.take (i := 5) (v := ?v5_6) rfl (by kernel_rfl) (by rfl) (by kernel_rfl) (by kernel_rfl) (fun _ _ _ h => h) (Or.inl ⟨by rfl, ?hy5_6⟩) hS0 ?rest5_6
            case hy5_6 =>
              intro W hSw
              (try dsimp only at hSw)
              go_simp
              first | done | (with_reducible rfl)
            try simp only [Act.put, List.setIfInBounds_toArray, List.set_cons_zero, List.set_cons_succ]
            refine GoT.take (i := 6) (v := ?v6_7) rfl (by kernel_rfl) (by rfl) (by kernel_rfl) (by kernel_rfl) (fun _ _ _ h => h) (Or.inl ⟨by rfl, ?hy6_7⟩) hS0 ?rest6_7
            case hy6_7 =>
              intro W hSw
              (try dsimp only at hSw)
              go_simp
              first | done | (with_reducible rfl)
            try simp only [Act.put, List.setIfInBounds_toArray, List.set_cons_zero, List.set_cons_succ]
            refine GoT.take (i := 7) (v := ?v7_8) rfl (by kernel_rfl) (by rfl) (by kernel_rfl) (by kernel_rfl) (fun _ _ _ h => h) (Or.inl ⟨by rfl, ?hy7_8⟩) hS0 ?rest7_8
            case hy7_8 =>
              intro W hSw
              (try dsimp only at hSw)
              go_simp
              first | done | (with_reducible rfl)
            try simp only [Act.put, List.setIfInBounds_toArray, List.set_cons_zero, List.set_cons_succ]
            refine GoT.take (i := 10) (v := ?v10_9) rfl (by kernel_rfl) (by rfl) (by kernel_rfl) (by kernel_rfl) (fun _ _ _ h => h) (Or.inl ⟨by rfl, ?hy10_9⟩) hS0 ?rest10_9
            case hy10_9 =>
              intro W hSw
              (try dsimp only at hSw)
              go_simp
              first | done | (with_reducible rfl)
            try simp only [Act.put, List.setIfInBounds_toArray, List.set_cons_zero, List.set_cons_succ]
            refine GoT.take (i := 11) (v := ?v11_10) rfl (by kernel_rfl) (by rfl) (by kernel_rfl) (by kernel_rfl) (fun _ _ _ h => h) (Or.inl ⟨by rfl, ?hy11_10⟩) hS0 ?rest11_10
            case hy11_10 =>
              intro W hSw
              (try dsimp only at hSw)
              go_simp
              first | done | (with_reducible rfl)
            try simp only [Act.put, List.setIfInBounds_toArray, List.set_cons_zero, List.set_cons_succ]
            refine GoT.one (i := 8) rfl (by rfl) (by kernel_rfl) (fun K hK => ?_)
            refine step_call w9.drew (by rfl) 37 #[.tmp 40, .tmp 43] _ (by rfl) #[.pointer (some ⟨g, 0, none⟩), .int .i64 ((n - 1 : Nat) : Int)] (by simp [Act.eval, e4]) hEB ((l01Below_any lo w9.drew g cv (n - 1) (by omega) (by omega) HDD.out.cur).mono ?_)
            rintro e w10 ⟨y, rfl, hy, hc10, hg10⟩
            refine ⟨_, rfl, ?_⟩
            have HD10 := Lib.hid (HDD.out.cursor hgw hbt hc10 hg10)
            have z0 := (World.cell?_of_block (hg10.block bt hbt9 (by simp; omega))).trans y0
            have z1 := (World.cell?_of_block (hg10.block bt hbt9 (by simp; omega))).trans y1
            have HO10 := Lib.hid (show Own w10 (w.heap.size + 1) (.slice Y n cy) xs from (show Own w9.drew (w.heap.size + 1) (.slice Y n cy) xs from HOX.out).kept hg10 (own_ne (fun k hk => (HOX.out.lt k hk).1) (by omega)))
            obtain ⟨b, hb, hbC, hba⟩ := other_ex ha hy
            have hr : Int.tmod (IntKind.i64.wrap (IntKind.i64.wrap ((a : Int) + 1) + (y : Int))) (n : Int) = (b : Int) := by
              rw [IntWalk.i64_in ((a : Int) + 1) (by omega), IntWalk.i64_in ((a : Int) + 1 + (y : Int)) (by omega)]; exact hb
            clear hc10 hg10
            refine hK.out _ _ ⟨z0, z1⟩ (fun hS1 => ?_)
            clear hK K
            simp only [Act.put, List.setIfInBounds_toArray, List.set_cons_zero, List.set_cons_succ]
            refine GoT.take (i := 9) (v := ?v9_11) rfl (by kernel_rfl) (by rfl) (by kernel_rfl) (by kernel_rfl) (fun _ _ _ h => h) (Or.inl ⟨by rfl, ?hy9_11⟩) hS1 ?rest9_11
            case hy9_11 =>
              intro W hSw
              (try dsimp only at hSw)
              go_simp
              first | done | (with_reducible rfl)
            try simp only [Act.put, List.setIfInBounds_toArray, List.set_cons_zero, List.set_cons_succ]
            refine GoT.take (i := 12) (v := ?v12_12) rfl (by kernel_rfl) (by rfl) (by kernel_rfl) (by kernel_rfl) (fun _ _ _ h => h) (Or.inl ⟨by rfl, ?hy12_12⟩) hS1 ?rest12_12
            case hy12_12 =>
              intro W hSw
              (try dsimp only at hSw)
              go_simp
              first | done | (with_reducible rfl)
            try simp only [Act.put, List.setIfInBounds_toArray, List.set_cons_zero, List.set_cons_succ]
            refine GoT.one (i := 13) rfl (by rfl) (by kernel_rfl) (fun K hK => ?_)
            refine step_call w10 (by rfl) 55 #[.tmp 36, .tmp 37, .tmp 48] _ (by rfl) #[.agg #[.int .i64 n, .slice Y n cy], .int .i64 a, .int .i64 b] (by simp [Act.eval, hr]) hEF ((l02Flip_any n (.slice Y n cy) xs a b w10 HO10.out.rd (by have := HXL.out; omega) (by have := HXL.out; omega) (by have := HXL.out; omega)).mono ?_)
            rintro e w11 ⟨s11, rfl, ho11, hb11⟩
            refine ⟨_, rfl, ?_⟩
            have HD11 := Lib.hid (HD10.out.below hb11)
            have HT11 := Lib.hid (flip_tour HP.out (a := a) (b := b) (by have := HXL.out; omega) (by have := HXL.out; omega) (Ne.symm hba))
            obtain ⟨Y11, cy11, rfl, -, -, -⟩ := ho11.form
            have HO11 := Lib.hid ho11
            obtain ⟨s12, x12, -, hx12, -, -⟩ := HD11.out.tour
            have v0 := hx12.1.1
            have v1 := hx12.1.2
            have f0 := hx12.2 0
            have f1 := hx12.2 1
            have hbt10 := World.block_lt_of_cell? w10 _ z0
            have z2 := (hb11.cell (p := ⟨bt, 0, none⟩) hbt10).trans z0
            have z3 := (hb11.cell (p := ⟨bt, 1, none⟩) hbt10).trans z1
            clear ho11 hb11 hx12
            refine hK.out _ _ ⟨z2, z3⟩ (fun _ => ?_)
            clear hK K hS0 hS1
            simp only [Act.put, List.setIfInBounds_toArray, List.set_cons_zero, List.set_cons_succ]
            refine GoT.stop (by kernel_rfl) ?_
            have hbt11 : bt < w10.heap.size := hbt10
            have HD12 := Lib.hid (HD11.out.put hgw hbt HT11.out (HO11.out.mono (by omega)) (fun k hk => by have := (HO11.out.lt k hk).1; omega))
            clear HD9 HP HOX HDD HD10 HO10 HD11 HT11 HO11 hr z0 z1 z2 z3 y0 y1
            simp only [List.drop_succ_cons, List.drop_zero]
            go_wp2
            go_roundw
            case rel => exact ⟨k, by omega, rfl, HD12⟩
            case measure => simp [intOf]
        · as_aux_lemma =>
            obtain ⟨slo, xso, -, hxo, -, -⟩ := HD.out.tour
            have y0 := hxo.1.1
            clear hxo
            rcases Nat.eq_zero_or_pos k with hk0 | hk0
            · subst hk0
              clear y0
              obtain ⟨sl, xs, hp, hx, ho, hne⟩ := HD.out.tour
              obtain ⟨Y, cy, rfl, -, -, -⟩ := ho.form
              have HP := Lib.hid hp
              have y0 := hx.1.1
              have y1 := hx.1.2
              have t0 := HD.out.box.1.1
              have t1 := HD.out.box.1.2
              have f0 := HD.out.box.2 0
              have f1 := HD.out.box.2 1
              have HO' := Lib.hid ((ho.kept (setCell_grown _ ⟨w.heap.size, 0, none⟩ (.int .i64 n)) (own_ne (fun k hk => (ho.lt k hk).1) (by show w.heap.size < w.heap.size + 1; omega))).kept (setCell_grown _ ⟨w.heap.size, 1, none⟩ (.slice Y xs.length cy)) (own_ne (fun k hk => (ho.lt k hk).1) (by show w.heap.size < w.heap.size + 1; omega)))
              have HG' := Lib.hid (grown_newC (grown_newC HD.out.grown (setCell_grown _ ⟨w.heap.size, 0, none⟩ (.int .i64 n)) (fun k hk => by simp at hk; omega)) (setCell_grown _ ⟨w.heap.size, 1, none⟩ (.slice Y xs.length cy)) (fun k hk => by simp at hk; omega))
              have R0 : Hid (((wo.setCell ⟨w.heap.size, 0, none⟩ (.int .i64 n)).setCell ⟨w.heap.size, 1, none⟩ (.slice Y xs.length cy)).cell? ⟨w.heap.size, 0, none⟩ = some (.int .i64 n)) := (World.cell?_setCell_other _ _ _ _ (by simp)).trans (World.cell?_setCell_same _ _ _ t0)
              have R1 : Hid (((wo.setCell ⟨w.heap.size, 0, none⟩ (.int .i64 n)).setCell ⟨w.heap.size, 1, none⟩ (.slice Y xs.length cy)).cell? ⟨w.heap.size, 1, none⟩ = some (.slice Y xs.length cy)) := World.cell?_setCell_same _ _ _ ((World.cell?_setCell_other _ _ _ _ (by simp)).trans t1)
              clear ho hx hne hp
              go_wp2
              have r0 := R0.out
              have r1 := R1.out
              refine bodyPost_ret (v := .agg #[.int .i64 n, .slice Y xs.length cy]) (by simp only [results, Tryz.results21]; simp [go_sem, r0, r1]) rfl ⟨n, _, xs, rfl, hnm, HP.out, HO'.out.mono (by omega), HG'.out⟩
            · have hn2 : ¬ 1 < n := by omega
              have hn2i : decide ((1 : Int) < (n : Int)) = false := by simp; omega
              have hn2j : decide (1 < n) = false := by simp; omega
              have hk1 : (0 : Int) < (k : Int) := by omega
              clear y0
              obtain ⟨sl, xs, hp, hx, ho, hne⟩ := HD.out.tour
              obtain ⟨Y, cy, rfl, -, -, -⟩ := ho.form
              have HP := Lib.hid hp
              have y0 := hx.1.1
              have y1 := hx.1.2
              have t0 := HD.out.box.1.1
              have t1 := HD.out.box.1.2
              have f0 := HD.out.box.2 0
              have f1 := HD.out.box.2 1
              have HO' := Lib.hid ((ho.kept (setCell_grown _ ⟨w.heap.size, 0, none⟩ (.int .i64 n)) (own_ne (fun k hk => (ho.lt k hk).1) (by show w.heap.size < w.heap.size + 1; omega))).kept (setCell_grown _ ⟨w.heap.size, 1, none⟩ (.slice Y xs.length cy)) (own_ne (fun k hk => (ho.lt k hk).1) (by show w.heap.size < w.heap.size + 1; omega)))
              have HG' := Lib.hid (grown_newC (grown_newC HD.out.grown (setCell_grown _ ⟨w.heap.size, 0, none⟩ (.int .i64 n)) (fun k hk => by simp at hk; omega)) (setCell_grown _ ⟨w.heap.size, 1, none⟩ (.slice Y xs.length cy)) (fun k hk => by simp at hk; omega))
              have R0 : Hid (((wo.setCell ⟨w.heap.size, 0, none⟩ (.int .i64 n)).setCell ⟨w.heap.size, 1, none⟩ (.slice Y xs.length cy)).cell? ⟨w.heap.size, 0, none⟩ = some (.int .i64 n)) := (World.cell?_setCell_other _ _ _ _ (by simp)).trans (World.cell?_setCell_same _ _ _ t0)
              have R1 : Hid (((wo.setCell ⟨w.heap.size, 0, none⟩ (.int .i64 n)).setCell ⟨w.heap.size, 1, none⟩ (.slice Y xs.length cy)).cell? ⟨w.heap.size, 1, none⟩ = some (.slice Y xs.length cy)) := World.cell?_setCell_same _ _ _ ((World.cell?_setCell_other _ _ _ _ (by simp)).trans t1)
              clear ho hx hne hp
              go_wp2
              have r0 := R0.out
              have r1 := R1.out
              refine bodyPost_ret (v := .agg #[.int .i64 n, .slice Y xs.length cy]) (by simp only [results, Tryz.results21]; simp [go_sem, r0, r1]) rfl ⟨n, _, xs, rfl, hnm, HP.out, HO'.out.mono (by omega), HG'.out⟩
end Go.Proofs.YthoodjjjklbggaaGreatDoor

namespace Go.Proofs.YthoodjjjklbggaaGreatDoor
open Go.RowKit Go.Sort
set_option maxRecDepth 100000
set_option maxHeartbeats 2000000 in
theorem makeTour_any (w : World) (v : Value) (k m : Int) (n most : Nat) (hk : k = n) (hm : m = most) (hn : n ≤ 1000) (hm1 : 2 ≤ most) (hm8 : most ≤ 7) (hv : BytesV w w.heap.size v) :
    Calls Tryz.prog 4 #[v, .int .i64 k, .int .i64 m] w fun e w' => ∃ (s : Nat) (sl : Value) (xs : List Int), e = .returned (.agg #[.int .i64 s, sl]) ∧ s ≤ most ∧ tourP s xs ∧ Own w' w.heap.size sl xs ∧ Below w.heap.size w w' := by
  subst hm
  have HV := Lib.hid hv
  have HK := Lib.hid hk
  have HT0 := Lib.hid (BoxF.new w 0 (.slice none 0 0) 25)
  have HB0 := Lib.hid (below_alloc1 w (.cells #[.int .i64 0, .slice none 0 0] 25))
  have e1 : (most : Int) < 8 := by omega
  have e2 : (1 : Int) < (most : Int) := by omega
  clear hv hk
  go_enter Tryz.func4, Tryz.ntmps4
  go_wp2_with fail
  generalize w.alloc (.cells #[.int .i64 0, .slice none 0 0] 25) = w0 at *
  have hg0 := HT0.out.gt
  go_wp2_with fail
  refine (l32New_lit w0 v k n HK.out hn ((HV.out.keep fun p hp => HB0.out.cell hp).mono HB0.out.size)).mono ?_
  rintro e w1 ⟨g, rfl, hc1, hb1⟩
  have HC1 := Lib.hid hc1
  have HT1 := Lib.hid (HT0.out.below hb1)
  have HB1 := Lib.hid (Below.then HB0.out hb1)
  have hgw : w.heap.size < g := Nat.lt_of_lt_of_le hg0 hc1.le
  have hw1 : w.heap.size ≤ w1.heap.size := HB1.out.size
  clear hc1 hb1
  go_wp2_with fail
  refine (l05Draw_any w0.heap.size w1 g v most (by omega) (by omega) HC1.out).mono ?_
  rintro e w2 ⟨C, sl, rs, rfl, hC, hr, ho, hg⟩
  obtain ⟨Y, cy, rfl, -, -, -⟩ := ho.form
  have HR := Lib.hid hr
  have T2 := HT1.out.kept hg (by simp; omega)
  have hlt : w.heap.size < w1.heap.size := HT1.out.gt
  have t0 := T2.1.1
  have t1 := T2.1.2
  have f0 := T2.2 0
  have f1 := T2.2 1
  have HO := Lib.hid (((ho.kept (setCell_grown _ ⟨w.heap.size, 0, none⟩ (.int .i64 C)) (own_ne (fun k hk => (ho.lt k hk).1) (by simp; omega))).kept (setCell_grown _ ⟨w.heap.size, 1, none⟩ (.slice Y rs.length cy)) (own_ne (fun k hk => (ho.lt k hk).1) (by simp; omega))))
  have HB2 := Lib.hid (HB1.out.grown hg HB1.out.size (fun k hk => by injection hk with hk; omega))
  have HB := Lib.hid ((HB2.out.setCell (p := ⟨w.heap.size, 0, none⟩) (Nat.le_refl _) (.int .i64 C)).setCell (p := ⟨w.heap.size, 1, none⟩) (Nat.le_refl _) (.slice Y rs.length cy))
  have R0 : Hid (((w2.setCell ⟨w.heap.size, 0, none⟩ (.int .i64 C)).setCell ⟨w.heap.size, 1, none⟩ (.slice Y rs.length cy)).cell? ⟨w.heap.size, 0, none⟩ = some (.int .i64 C)) := (World.cell?_setCell_other _ _ _ _ (by simp)).trans (World.cell?_setCell_same _ _ _ t0)
  have R1 : Hid (((w2.setCell ⟨w.heap.size, 0, none⟩ (.int .i64 C)).setCell ⟨w.heap.size, 1, none⟩ (.slice Y rs.length cy)).cell? ⟨w.heap.size, 1, none⟩ = some (.slice Y rs.length cy)) := World.cell?_setCell_same _ _ _ ((World.cell?_setCell_other _ _ _ _ (by simp)).trans t1)
  clear ho hg T2 hr
  go_wp2
  have r0 := R0.out
  have r1 := R1.out
  refine bodyPost_ret (v := .agg #[.int .i64 C, .slice Y rs.length cy]) (by simp only [results, Tryz.results4]; simp [go_sem, r0, r1]) rfl ⟨C, _, rs, rfl, hC, HR.out, HO.out.mono (by omega), HB.out⟩
end Go.Proofs.YthoodjjjklbggaaGreatDoor

namespace Go.Proofs.YthoodjjjklbggaaGreatDoor
open Go.RowKit Go.Sort
set_option maxRecDepth 100000
set_option maxHeartbeats 400000 in
theorem less_any (x y : Int) (w : World) : Calls Tryz.prog 88 #[.int .i64 x, .int .i64 y] w fun e w' => e = .returned (.bool (decide (x < y))) ∧ w = w' := by
  go_enter Tryz.func88, Tryz.ntmps88
  go_wp2_with (go_at_call 76; refine (isNaN_any _ _).mono ?_; rintro e w1 ⟨rfl, rfl⟩)
  go_ret
  exact ⟨rfl, rfl⟩
set_option maxHeartbeats 2000000 in
theorem sorted_yes (v : Value) (xs : List Int) (w : World) (h : Rd w v xs) (h1 : 1 ≤ xs.length) (hs : ∀ i, i + 1 < xs.length → xs.getD i 0 ≤ xs.getD (i + 1) 0) (hn : xs.length ≤ 1000) :
    Calls Tryz.prog 73 #[v] w fun e w' => e = .returned (.bool true) ∧ Below w.heap.size w w' := by
  obtain ⟨A, c, rfl, hl1, hm1, hc1⟩ := h
  unfold maxLen at hm1
  obtain ⟨b, off, rfl, hb, hx⟩ := hc1 (by omega)
  have HS := Lib.hid hs
  have HX := Lib.hid hx
  generalize hnn : xs.length = n at *
  clear hc1 hs hx hnn
  go_enter Tryz.func73, Tryz.ntmps73
  go_wp2
  go_loopw [3] (fun t3 wr => ∃ i : Nat, i < n ∧ t3 = .int .i64 i ∧ Hid (Below w.heap.size w wr)) (fun t3 _ => (intOf t3).toNat)
  case atStart => exact ⟨n - 1, by omega, by first | go_num | (congr 1; omega), Lib.hid (Below.refl _ _)⟩
  case round =>
    obtain ⟨i, hi, rfl, HB⟩ := hrel
    by_cases h0 : 0 < i
    · obtain ⟨p, rfl⟩ : ∃ p, i = p + 1 := ⟨i - 1, by omega⟩
      have hle := HS.out p hi
      have z1 := (HB.out.cell (p := ⟨b, off + (p + 1), none⟩) hb).trans (HX.out (p + 1) hi)
      have z0 := (HB.out.cell (p := ⟨b, off + p, none⟩) hb).trans (HX.out p (by omega))
      generalize xs.getD (p + 1) 0 = X at *
      generalize xs.getD p 0 = Y at *
      have hd : decide (X < Y) = false := by rw [decide_eq_false_iff_not]; omega
      have k1 := quiet_below (w := wr) (fun W _ => by have := of_same (less_any X Y W); rwa [hd] at this)
      have c1 := cell_regrown z1
      have c0 := cell_regrown z0
      clear z0 z1
      go_wp2_with fail
      refine wp_region_below (by kernel_rfl) (by kernel_rfl) ?_
      repeat (go_big_quiet_step (first | (with_reducible exact k1 _ _)))
      refine wpQuiet_nil ?_
      intro wq hbq0
      have HBQ := Lib.hid (Below.then HB.out hbq0)
      clear hbq0 c0 c1 k1
      go_wp2
      go_roundw
      case rel => exact ⟨p, by omega, by go_num, HBQ⟩
      case measure => simp [intOf]
    · obtain rfl : i = 0 := by omega
      go_wp2
      go_ret
      exact ⟨rfl, HB.out⟩
set_option maxHeartbeats 1000000 in
theorem min_pos (v : Value) (xs : List Int) (w : World) (h : Rd w v xs) (hne : 0 < xs.length) (hs : ∀ i, i < xs.length → 0 ≤ xs.getD i 0) :
    Calls Tryz.prog 75 #[v] w fun e w' => (∃ m : Int, e = .returned (.int .i64 m) ∧ 0 ≤ m) ∧ w = w' := by
  obtain ⟨A, c, rfl, hl1, hm1, hc1⟩ := h
  unfold maxLen at hm1
  obtain ⟨b, off, rfl, hb, hx⟩ := hc1 hne
  have HX := Lib.hid hx
  have HP := Lib.hid hs
  generalize hn : xs.length = n at *
  have z0 := HX.out 0 hne
  have p0 := HP.out 0 hne
  rw [Nat.add_zero] at z0
  clear hx hs hn hc1
  generalize xs.getD 0 0 = x0 at *
  go_enter Tryz.func75, Tryz.ntmps75
  go_wp2
  clear z0
  go_loop [3, 4] (fun t3 t4 => ∃ (i : Nat) (m : Int), 1 ≤ i ∧ i ≤ n ∧ t4 = .int .i64 i ∧ t3 = .int .i64 m ∧ 0 ≤ m) (fun _ t4 => n - (intOf t4).toNat)
  case atStart => exact ⟨1, x0, by omega, by omega, rfl, rfl, p0⟩
  case round =>
    obtain ⟨i, m, h1, hi, rfl, rfl, hm⟩ := hrel
    by_cases hlt : i < n
    · have zi := HX.out i hlt
      have pi := HP.out i hlt
      generalize xs.getD i 0 = y at *
      rcases Int.lt_or_le y m with hy | hy
      · have hmin : min m y = y := by omega
        go_wp2
        all_goals
          go_round
          case rel => first | exact ⟨i + 1, y, by omega, by omega, by go_num, rfl, pi⟩ | exact ⟨i + 1, y, by omega, by omega, by go_num, by simp [hmin], pi⟩
          case measure => simp [intOf]; omega
      · have hmin : min m y = m := by omega
        go_wp2
        all_goals
          go_round
          case rel => first | exact ⟨i + 1, m, by omega, by omega, by go_num, rfl, hm⟩ | exact ⟨i + 1, m, by omega, by omega, by go_num, by simp [hmin], hm⟩
          case measure => simp [intOf]; omega
    · obtain rfl : i = n := by omega
      go_wp2
      go_ret
      exact ⟨⟨m, rfl, hm⟩, rfl⟩
/-- the sums, as a list -/
def slkL (t : List Int) (k : Nat) : List Int := (List.range k).map fun j => slkN t (j + 1)
theorem slkL_succ (t : List Int) (k : Nat) : slkL t (k + 1) = slkL t k ++ [slkN t (k + 1)] := by unfold slkL; rw [List.range_succ, List.map_append]; rfl
theorem slkL_len (t : List Int) (k : Nat) : (slkL t k).length = k := by simp [slkL]
theorem slkL_at (t : List Int) {k j : Nat} (h : j < k) : (slkL t k).getD j 0 = slkN t (j + 1) := by simp [slkL, h]
theorem slkN_bd {t : List Int} (h : ∀ i, 0 ≤ t.getD i 0 ∧ t.getD i 0 ≤ 8) : ∀ k : Nat, k ≤ 8 → -100 * (k : Int) ≤ slkN t k ∧ slkN t k ≤ 100 * k
  | 0, _ => by simp [slkN]
  | k + 1, hk => by
    have h1 := slkN_bd h k (by omega)
    have h2 := h k
    rw [slkN]
    push_cast
    omega
set_option maxHeartbeats 2000000 in
theorem slack_any (v : Value) (t : List Int) (w : World) (h : Rd w v t) (h1 : 1 ≤ t.length) (h8 : t.length ≤ 8) (hb : ∀ i, 0 ≤ t.getD i 0 ∧ t.getD i 0 ≤ 8) :
    Calls Tryz.prog 74 #[v] w fun e w' => ∃ A c, e = .returned (.slice A t.length c) ∧ Rd w' (.slice A t.length c) (slkL t t.length) ∧ Below w.heap.size w w' := by
  obtain ⟨A, c, rfl, hl1, hm1, hc1⟩ := h
  unfold maxLen at hm1
  obtain ⟨b, off, rfl, hbb, hx⟩ := hc1 (by omega)
  have HX := Lib.hid hx
  have HB8 := Lib.hid hb
  generalize hn : t.length = n at *
  clear hx hb hn hc1
  go_enter Tryz.func74, Tryz.ntmps74
  go_wp2
  go_loopw [3, 4, 9] (fun t3 t4 t9 wr => ∃ k : Nat, k ≤ n ∧ t9 = .int .i64 k ∧ t4 = .int .i64 (slkN t k) ∧ Hid (Own wr w.heap.size t3 (slkL t k)) ∧ Hid (Below w.heap.size w wr)) (fun _ _ t9 _ => n - (intOf t9).toNat)
  case atStart => exact ⟨0, by omega, rfl, rfl, Lib.hid (by simpa [slkL] using Own.nil_ _ _), Lib.hid (Below.refl _ _)⟩
  case round =>
    obtain ⟨wo, rfl⟩ : ∃ x, x = wr := ⟨_, rfl⟩
    obtain ⟨k, hk, rfl, rfl, HO, HB⟩ := hrel
    by_cases hlt : k < n
    · have zk := (HB.out.cell (p := ⟨b, off + k, none⟩) hbb).trans (HX.out k hlt)
      have HMS := Lib.hid (slkL_succ t k)
      have HSS : Hid (slkN t (k + 1) = slkN t k + (t.getD k 0 - k)) := rfl
      have hb1 := slkN_bd HB8.out k (by omega)
      have hb2 := HB8.out k
      have hll : (slkL t k).length ≤ 1099511627776 := by rw [slkL_len]; omega
      have ho := HO.out
      have hsz := HB.out.size
      obtain ⟨N, hN⟩ : ∃ N, N = slkN t (k + 1) := ⟨_, rfl⟩
      rw [← hN] at HSS HMS
      have HNN := Lib.hid hN
      clear hN
      generalize slkN t k = M at *
      generalize t.getD k 0 = x at *
      generalize slkL t k = X at *
      have hk8 : k < 8 := by omega
      have e1 : N = M + (x - k) := HSS.out
      have e2 : wrap64 (M + (x - (k : Int))) = N := by rw [e1]; exact IntWalk.wrap64_in _ (by omega)
      have e3 : IntKind.i64.wrap (M + (x - (k : Int))) = N := by rw [e1]; exact IntWalk.i64_in _ (by omega)
      have E1 := Lib.hid e1
      clear e1
      go_wp2_with (at_builtin; refine wp_append1 wo rfl (.tmp 19) (.tmp 21) rfl w.heap.size _ X N rfl ho (by simp [Act.eval]) hll hsz ?_; intro v' w7 hown1 hg1; have HO7 := Lib.hid hown1; have HB7 := Lib.hid (below_append HB.out hg1 ho (Nat.le_refl _) hsz); clear hown1 hg1)
      go_roundw
      case rel => exact ⟨k + 1, by omega, by go_num, by first | (rw [← HNN.out]; done) | (rw [← HNN.out, ← e3]; done) | (rw [← HNN.out, ← e2]; done), by rw [HMS.out]; exact HO7, HB7⟩
      case measure => simp [intOf]; omega
    · obtain rfl : n = k := by omega
      obtain ⟨Y, cy, rfl, -⟩ := HO.out.form
      rw [slkL_len] at HO ⊢
      go_wp2
      go_ret
      exact ⟨Y, cy, rfl, HO.out.rd, HB.out⟩
set_option maxHeartbeats 4000000 in
theorem landau_yes (v : Value) (t : List Int) (w : World) (h : Rd w v t) (h1 : 1 ≤ t.length) (h8 : t.length ≤ 8) (hb : ∀ i, 0 ≤ t.getD i 0 ∧ t.getD i 0 ≤ 8) (hs : ∀ i, i + 1 < t.length → t.getD i 0 ≤ t.getD (i + 1) 0) (hk : lanOk t t.length = true) :
    Calls Tryz.prog 45 #[v] w fun e w' => e = .returned (.bool true) ∧ Below w.heap.size w w' := by
  have HR := Lib.hid h
  obtain ⟨A, c, rfl, -, hm, -⟩ := h
  unfold maxLen at hm
  unfold lanOk at hk
  simp only [Bool.and_eq_true, List.all_eq_true, List.mem_range, decide_eq_true_eq] at hk
  have HK := Lib.hid hk
  have HS := Lib.hid hs
  have HB8 := Lib.hid hb
  have hall : allB t 0 8 = true := by
    unfold allB
    rw [List.all_eq_true]
    intro x hx
    obtain ⟨i, hi, rfl⟩ := List.getElem_of_mem hx
    rw [inB_true]
    have := hb i
    rwa [List.getD_eq_getElem?_getD, List.getElem?_eq_getElem hi] at this
  have HAL := Lib.hid hall
  have hin : inB (t.length : Int) 1 8 = true := by rw [inB_true]; omega
  have HIN := Lib.hid hin
  clear hk hs hb hall hin
  obtain ⟨n, hn⟩ : ∃ n, n = t.length := ⟨_, rfl⟩
  have HN := Lib.hid hn
  rw [← hn] at HR HIN h1 h8 ⊢
  clear hn
  go_enter Tryz.func45, Tryz.ntmps45
  go_wp2_with fail
  refine (within_any _ _ _ _).mono ?_
  rintro e w0 ⟨rfl, rfl⟩
  rw [HIN.out]
  go_wp2_with fail
  refine (allWithin_any _ t 0 8 _ HR.out).mono ?_
  rintro e w1 ⟨rfl, hb1⟩
  rw [HAL.out]
  have HB1 := Lib.hid hb1
  clear hb1
  go_wp2_with fail
  refine (sorted_yes _ t _ (HR.out.below HB1.out) (by rw [← HN.out]; exact h1) (by exact HS.out) (by rw [← HN.out]; omega)).mono ?_
  rintro e w2 ⟨rfl, hb2⟩
  have HB2 := Lib.hid (Below.then HB1.out hb2)
  clear hb2
  go_wp2_with fail
  refine (slack_any _ t _ (HR.out.below HB2.out) (by rw [← HN.out]; exact h1) (by rw [← HN.out]; exact h8) HB8.out).mono ?_
  rintro e w3 ⟨C, q, rfl, hr, hb3⟩
  rw [← HN.out] at hr ⊢
  have HB3 := Lib.hid (Below.then HB2.out hb3)
  have HR3 := Lib.hid hr
  clear hb3
  go_wp2_with fail
  refine (min_pos _ (slkL t n) _ HR3.out (by rw [slkL_len]; omega) (fun i hi => by
    rw [slkL_len] at hi
    rw [slkL_at t hi]
    exact HK.out.1 (i + 1) (by rw [← HN.out]; omega))).mono ?_
  rintro e w4 ⟨⟨m, rfl, hm0⟩, rfl⟩
  obtain ⟨g, off, rfl, hg, hx⟩ : ∃ g off, C = some ⟨g, off, none⟩ ∧ g < w3.heap.size ∧ ∀ k, k < n → w3.cell? ⟨g, off + k, none⟩ = some (.int .i64 (slkN t (k + 1))) := by
    obtain ⟨C', q', e, -, -, hc⟩ := hr
    injection e with e _ _
    subst e
    obtain ⟨g, off, rfl, hg, hx⟩ := hc (by rw [slkL_len]; omega)
    exact ⟨g, off, rfl, hg, fun k hk => by
      have := hx k (by rw [slkL_len]; exact hk)
      rwa [slkL_at t hk] at this⟩
  obtain ⟨p, rfl⟩ : ∃ p, n = p + 1 := ⟨n - 1, by omega⟩
  have zp := hx p (by omega)
  rw [HN.out, HK.out.2] at zp
  have dm : decide ((0 : Int) ≤ m) = true := decide_eq_true hm0
  clear hx hr
  go_wp2
  go_ret
  exact ⟨rfl, HB3.out⟩
end Go.Proofs.YthoodjjjklbggaaGreatDoor

namespace Go.Proofs.YthoodjjjklbggaaGreatDoor
set_option maxRecDepth 100000
def LtK (K : Int → Int) (x y : Int) : Prop := K x < K y ∨ (K x = K y ∧ x < y)
theorem LtK.trans {K : Int → Int} {x y z : Int} (h1 : LtK K x y) (h2 : LtK K y z) : LtK K x z := by
  unfold LtK at *
  omega
theorem LtK.le {K : Int → Int} {x y : Int} (h1 : LtK K x y) : K x ≤ K y := by
  unfold LtK at *
  omega
theorem ltK_of {K : Int → Int} {x y : Int} (h : ¬ K y < K x) (hl : x < y) : LtK K x y := by
  unfold LtK at *
  omega
theorem sorted_K {K : Int → Int} {X : List Int} (h : X.Pairwise (LtK K)) {i j : Nat} (hij : i ≤ j) (hj : j < X.length) : K (X.getD i 0) ≤ K (X.getD j 0) := by
  rcases Nat.lt_or_ge i j with hlt | hge
  · have := (List.pairwise_iff_getElem.1 h i j (by omega) hj hlt).le
    rw [show X.getD i 0 = X[i] by simp [show i < X.length by omega], show X.getD j 0 = X[j] by simp [hj]]
    exact this
  · have : i = j := by omega
    subst this; exact Int.le_refl _
theorem take_mem {X : List Int} {i : Nat} {x : Int} (h : x ∈ X.take i) : ∃ k, k < i ∧ k < X.length ∧ X.getD k 0 = x := by
  obtain ⟨k, hk, rfl⟩ := List.mem_iff_getElem.1 h
  rw [List.length_take] at hk
  exact ⟨k, by omega, by omega, by rw [List.getElem_take]; simp [show k < X.length by omega]⟩
theorem drop_mem {X : List Int} {i : Nat} {x : Int} (h : x ∈ X.drop i) : ∃ k, i ≤ k ∧ k < X.length ∧ X.getD k 0 = x := by
  obtain ⟨k, hk, rfl⟩ := List.mem_iff_getElem.1 h
  rw [List.length_drop] at hk
  exact ⟨i + k, by omega, by omega, by rw [List.getElem_drop]; simp [show i + k < X.length by omega]⟩
theorem pw_take {K : Int → Int} {X : List Int} (h : X.Pairwise (LtK K)) (i : Nat) : (X.take i).Pairwise (LtK K) := h.sublist (List.take_sublist i X)
theorem pw_drop {K : Int → Int} {X : List Int} (h : X.Pairwise (LtK K)) (i : Nat) : (X.drop i).Pairwise (LtK K) := h.sublist (List.drop_sublist i X)
theorem pw_cross {K : Int → Int} {X : List Int} (h : X.Pairwise (LtK K)) (i : Nat) : ∀ x ∈ X.take i, ∀ y ∈ X.drop i, LtK K x y := by
  have h2 := h
  rw [← List.take_append_drop i X, List.pairwise_append] at h2
  exact h2.2.2
/-- one element goes into the row behind it -/
theorem ins_left {K : Int → Int} {x : Int} {Y : List Int} {i : Nat} (hY : Y.Pairwise (LtK K)) (hx : ∀ y ∈ Y, x < y) (hlo : ∀ k, k < i → k < Y.length → K (Y.getD k 0) < K x) (hhi : ∀ k, i ≤ k → k < Y.length → ¬ K (Y.getD k 0) < K x) :
    (Y.take i ++ x :: Y.drop i).Pairwise (LtK K) ∧ (Y.take i ++ x :: Y.drop i).Perm ([x] ++ Y) := by
  constructor
  · rw [List.pairwise_append, List.pairwise_cons]
    refine ⟨pw_take hY i, ⟨fun y hy => ?_, pw_drop hY i⟩, fun y hy z hz => ?_⟩
    · obtain ⟨k, h1, h2, rfl⟩ := drop_mem hy
      exact ltK_of (hhi k h1 h2) (hx _ (List.mem_of_mem_drop hy))
    · rcases List.mem_cons.1 hz with rfl | hz
      · obtain ⟨k, h1, h2, rfl⟩ := take_mem hy
        exact .inl (hlo k h1 h2)
      · exact pw_cross hY i y hy z hz
  · refine List.perm_middle.trans ?_
    rw [List.take_append_drop]
    exact .refl _
/-- one element goes into the row ahead of it -/
theorem ins_right {K : Int → Int} {y : Int} {X : List Int} {i : Nat} (hX : X.Pairwise (LtK K)) (hy : ∀ x ∈ X, x < y) (hlo : ∀ k, k < i → k < X.length → ¬ K y < K (X.getD k 0)) (hhi : ∀ k, i ≤ k → k < X.length → K y < K (X.getD k 0)) :
    (X.take i ++ y :: X.drop i).Pairwise (LtK K) ∧ (X.take i ++ y :: X.drop i).Perm (X ++ [y]) := by
  constructor
  · rw [List.pairwise_append, List.pairwise_cons]
    refine ⟨pw_take hX i, ⟨fun x hx => ?_, pw_drop hX i⟩, fun x hx z hz => ?_⟩
    · obtain ⟨k, h1, h2, rfl⟩ := drop_mem hx
      exact .inl (hhi k h1 h2)
    · rcases List.mem_cons.1 hz with rfl | hz
      · obtain ⟨k, h1, h2, rfl⟩ := take_mem hx
        exact ltK_of (hlo k h1 h2) (hy _ (List.mem_of_mem_take hx))
      · exact pw_cross hX i x hx z hz
  · refine List.perm_middle.trans ?_
    rw [List.take_append_drop]
    exact (List.perm_append_comm (l₁ := [y]))
/-- the split of the symmetric merge: positions s of X and t of Y -/
theorem split_cross {K : Int → Int} {X Y : List Int} {s t : Nat} (hX : X.Pairwise (LtK K)) (hY : Y.Pairwise (LtK K)) (hx : ∀ x ∈ X, ∀ y ∈ Y, x < y) (h1 : 0 < s → t < Y.length → ¬ K (Y.getD t 0) < K (X.getD (s - 1) 0)) (h2 : s < X.length → 0 < t → K (Y.getD (t - 1) 0) < K (X.getD s 0)) (hs : s ≤ X.length) (ht : t ≤ Y.length) :
    ∀ x ∈ X.take s ++ Y.take t, ∀ y ∈ X.drop s ++ Y.drop t, LtK K x y := by
  intro x mx y my
  rw [List.mem_append] at mx my
  rcases mx with mx | mx <;> rcases my with my | my
  · exact pw_cross hX s x mx y my
  · have hlt := hx x (List.mem_of_mem_take mx) y (List.mem_of_mem_drop my)
    obtain ⟨i, i1, i2, rfl⟩ := take_mem mx
    obtain ⟨j, j1, j2, rfl⟩ := drop_mem my
    have e1 := sorted_K hX (i := i) (j := s - 1) (by omega) (by omega)
    have e2 := sorted_K hY (i := t) (j := j) (by omega) (by omega)
    have e3 := h1 (by omega) (by omega)
    exact ltK_of (by omega) hlt
  · obtain ⟨i, i1, i2, rfl⟩ := take_mem mx
    obtain ⟨j, j1, j2, rfl⟩ := drop_mem my
    have e1 := sorted_K hY (i := i) (j := t - 1) (by omega) (by omega)
    have e2 := sorted_K hX (i := s) (j := j) (by omega) (by omega)
    have e3 := h2 (by omega) (by omega)
    exact .inl (by omega)
  · exact pw_cross hY t x mx y my
theorem merge_join {K : Int → Int} {X1 X2 Y1 Y2 M1 M2 : List Int} (p1 : M1.Perm (X1 ++ Y1)) (p2 : M2.Perm (X2 ++ Y2)) (s1 : M1.Pairwise (LtK K)) (s2 : M2.Pairwise (LtK K)) (hc : ∀ x ∈ X1 ++ Y1, ∀ y ∈ X2 ++ Y2, LtK K x y) :
    (M1 ++ M2).Perm ((X1 ++ X2) ++ (Y1 ++ Y2)) ∧ (M1 ++ M2).Pairwise (LtK K) := by
  constructor
  · refine (p1.append p2).trans ?_
    rw [List.append_assoc, List.append_assoc]
    refine List.Perm.append_left X1 ?_
    rw [← List.append_assoc, ← List.append_assoc]
    exact List.Perm.append_right Y2 List.perm_append_comm
  · rw [List.pairwise_append]
    exact ⟨s1, s2, fun x hx y hy => hc x (p1.mem_iff.1 hx) y (p2.mem_iff.1 hy)⟩
/-- sorted and of the same elements: the same list -/
theorem ltK_unique {K : Int → Int} : ∀ {A B : List Int}, A.Pairwise (LtK K) → B.Pairwise (LtK K) → A.Perm B → A = B
  | [], B, _, _, p => (List.nil_perm.1 p).symm
  | a :: A, [], _, _, p => by have := p.length_eq; simp at this
  | a :: A, b :: B, hA, hB, p => by
    rw [List.pairwise_cons] at hA hB
    have hab : a = b := by
      have ha : a ∈ b :: B := p.mem_iff.1 List.mem_cons_self
      have hb : b ∈ a :: A := p.mem_iff.2 List.mem_cons_self
      rcases List.mem_cons.1 ha with h | h
      · exact h
      · rcases List.mem_cons.1 hb with h' | h'
        · exact h'.symm
        · have h1 := hB.1 a h
          have h2 := hA.1 b h'
          unfold LtK at h1 h2
          omega
    subst hab
    rw [ltK_unique hA.2 hB.2 (List.perm_cons a |>.1 p)]
end Go.Proofs.YthoodjjjklbggaaGreatDoor

namespace Go.Proofs.YthoodjjjklbggaaGreatDoor
open Go.RowKit Go.Sort
set_option maxRecDepth 100000
theorem two_at (A : List Int) (x : Int) (B : List Int) (y : Int) (C : List Int) : (A ++ x :: (B ++ y :: C)).getD A.length 0 = x ∧ (A ++ x :: (B ++ y :: C)).getD (A.length + 1 + B.length) 0 = y := by
  constructor
  · rw [List.getD_eq_getElem?_getD, List.getElem?_append_right (Nat.le_refl _), Nat.sub_self]; rfl
  · rw [List.getD_eq_getElem?_getD, List.getElem?_append_right (by omega), show A.length + 1 + B.length - A.length = B.length + 1 by omega, List.getElem?_cons_succ, List.getElem?_append_right (Nat.le_refl _), Nat.sub_self]; rfl
theorem two_swap (A : List Int) (x : Int) (B : List Int) (y : Int) (C : List Int) : ((A ++ x :: (B ++ y :: C)).set A.length y).set (A.length + 1 + B.length) x = A ++ y :: (B ++ x :: C) := by
  rw [List.set_append_right _ _ (Nat.le_refl _), Nat.sub_self, List.set_cons_zero, List.set_append_right _ _ (by omega), show A.length + 1 + B.length - A.length = B.length + 1 by omega, List.set_cons_succ, List.set_append_right _ _ (Nat.le_refl _), Nat.sub_self, List.set_cons_zero]
/-- behind i swaps -/
def swK (P X Q Y S : List Int) (i : Nat) : List Int := P ++ Y.take i ++ X.drop i ++ Q ++ X.take i ++ Y.drop i ++ S
theorem swK_form (P X Q Y S : List Int) {i : Nat} (hx : i < X.length) (hy : i < Y.length) :
    swK P X Q Y S i = (P ++ Y.take i) ++ X.getD i 0 :: ((X.drop (i + 1) ++ Q ++ X.take i) ++ Y.getD i 0 :: (Y.drop (i + 1) ++ S)) ∧
    swK P X Q Y S (i + 1) = (P ++ Y.take i) ++ Y.getD i 0 :: ((X.drop (i + 1) ++ Q ++ X.take i) ++ X.getD i 0 :: (Y.drop (i + 1) ++ S)) := by
  have e1 : X.drop i = X.getD i 0 :: X.drop (i + 1) := drop_eq' hx
  have e2 : Y.drop i = Y.getD i 0 :: Y.drop (i + 1) := drop_eq' hy
  have e3 : X.take (i + 1) = X.take i ++ [X.getD i 0] := by rw [List.take_succ_eq_append_getElem hx, show X.getD i 0 = X[i] by simp [hx]]
  have e4 : Y.take (i + 1) = Y.take i ++ [Y.getD i 0] := by rw [List.take_succ_eq_append_getElem hy, show Y.getD i 0 = Y[i] by simp [hy]]
  unfold swK
  rw [e1, e2, e3, e4]
  constructor <;> simp
theorem swK_zero (P X Q Y S : List Int) : swK P X Q Y S 0 = P ++ X ++ Q ++ Y ++ S := by simp [swK]
theorem swK_end (P X Q Y S : List Int) {k : Nat} (hx : X.length = k) (hy : Y.length = k) : swK P X Q Y S k = P ++ Y ++ Q ++ X ++ S := by
  unfold swK
  rw [List.take_of_length_le (by omega), List.drop_eq_nil_of_le (by omega), List.take_of_length_le (by omega), List.drop_eq_nil_of_le (by omega)]; simp
end Go.Proofs.YthoodjjjklbggaaGreatDoor

namespace Go.Proofs.YthoodjjjklbggaaGreatDoor
open Go.RowKit Go.Sort
set_option maxRecDepth 100000
/-- what a round of rotate keeps -/
def RotI (P X Y S : List Int) (a m b : Nat) (C U V D : List Int) (i j : Nat) : Prop :=
  U.length = i ∧ V.length = j ∧ a + C.length + i = m ∧ m + j + D.length = b ∧ P ++ C ++ V ++ U ++ D ++ S = P ++ Y ++ X ++ S
end Go.Proofs.YthoodjjjklbggaaGreatDoor

