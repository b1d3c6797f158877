/- Texts put together: Draw5, MkT, FrameB, StD, ApG. -/
import Derived.Test.YtajeledbmnndmaaMOrders15
import Derived.Test.YtajeledbmnndmaaMOrders11
import Derived.Test.YtajeledbmnndmaaMOrders10
import Derived.Test.YtajeledbmnndmaaMOrders14
import Derived.Test.YtajeledbmnndmaaMOrders13
import Derived.Test.YtajeledbmnndmaaMOrders12
import Derived.Deep.RegionHeld3
import Derived.Deep.DeepCutAuto
import Derived.Test.YtajeledbmnndmaaMOrders02
import Derived.Test.YtajeledbmnndmaaMOrders07
import Derived.Test.YtajeledbmnndmaaMOrders01
namespace Go.Proofs.Ytajeledbmnndmaa
open Go.RowKit Go.Sort
set_option maxRecDepth 100000
set_option maxHeartbeats 2000000 in
theorem l01Once_any (lo : Nat) (w : World) (g : Nat) (v : Value) (k : Int) (n : Nat) (hk : k = n) (hn : 1 ≤ n) (hn2 : n ≤ 256) (hc : CurB lo w g v) :
    Calls Try.prog 124 #[.pointer (some ⟨g, 0, none⟩), .int .i64 k] w fun e w' => ∃ b : Bool, e = .returned (.bool b) ∧ CurB lo w' g v ∧ w.grownBy w' (some g) := by
  subst hk
  have HC := Lib.hid hc
  clear hc
  go_enter Try.func124, Try.ntmps124
  go_wp2_with fail
  refine (l01Below_any lo _ g v n hn hn2 HC.out).mono ?_
  rintro e w1 ⟨x, rfl, hx, hc1, hg1⟩
  have HC1 := Lib.hid hc1
  have HG1 := Lib.hid hg1
  clear hc1 hg1
  rcases Nat.eq_zero_or_pos x with h0 | h0
  · subst h0
    go_wp2
    go_ret
    exact ⟨true, rfl, HC1.out, HG1.out⟩
  · have hx0 : ((x : Int) == 0) = false := by simp; omega
    have hx1 : (x == 0) = false := by simp; omega
    go_wp2
    go_ret
    exact ⟨false, ret_bool (by first | rfl | (simp; omega)), HC1.out, HG1.out⟩
/-- the tour that is being drawn, in its box -/
structure DrT (w W : World) (g bt lo n : Nat) (cv : Value) : Prop where
  tour : ∃ sl xs, tourP n xs ∧ BoxF W bt n sl ∧ Own W (w.heap.size + 1) sl xs ∧ ∀ k, sl.ownBlock = some k → k ≠ bt
  box : BoxF W w.heap.size 0 (.slice none 0 0)
  cur : CurB lo W g cv
  grown : w.grownBy W (some g)
theorem DrT.cursor {w W W' : World} {g bt lo n : Nat} {cv : Value} (h : DrT w W g bt lo n cv) (hgw : g < w.heap.size) (hb : w.heap.size < bt) (hc : CurB lo W' g cv) (hg : W.grownBy W' (some g)) : DrT w W' g bt lo n cv := by
  obtain ⟨sl, xs, h1, h2, h3, h4⟩ := h.tour
  exact ⟨⟨sl, xs, h1, h2.kept hg (by simp; omega), h3.kept hg (own_ne (fun k hk => (h3.lt k hk).1) (by omega)), h4⟩, h.box.kept hg (by simp; omega), hc, h.grown.trans hg⟩
/-- a new tour goes into the box -/
theorem DrT.put {w W : World} {g bt lo n n' : Nat} {cv sl : Value} {xs : List Int} (h : DrT w W g bt lo n cv) (hgw : g < w.heap.size) (hb : w.heap.size < bt) (hp : tourP n' xs) (ho : Own W (w.heap.size + 1) sl xs) (hne : ∀ k, sl.ownBlock = some k → k ≠ bt) :
    DrT w ((W.setCell ⟨bt, 0, none⟩ (.int .i64 n')).setCell ⟨bt, 1, none⟩ sl) g bt lo n' cv := by
  obtain ⟨sl0, xs0, h1, h2, h3, h4⟩ := h.tour
  have g1 : W.grownBy (W.setCell ⟨bt, 0, none⟩ (.int .i64 n')) (some bt) := setCell_grown _ ⟨bt, 0, none⟩ _
  have g2 : (W.setCell ⟨bt, 0, none⟩ (.int .i64 n')).grownBy ((W.setCell ⟨bt, 0, none⟩ (.int .i64 n')).setCell ⟨bt, 1, none⟩ sl) (some bt) := setCell_grown _ ⟨bt, 1, none⟩ _
  have hn : sl.ownBlock = none ∨ sl.ownBlock ≠ some bt := by
    rcases q : sl.ownBlock with _ | k
    · exact .inl rfl
    · right; intro e; injection e with e; exact hne k q e
  exact ⟨⟨sl, xs, hp, h2.set01 n' sl, (ho.kept g1 hn).kept g2 hn, hne⟩, (h.box.kept g1 (by simp; omega)).kept g2 (by simp; omega), (h.cur.kept g1 (fun k hk => by injection hk with hk; have := h.cur.le; have := h.cur.lt; omega)).kept g2 (fun k hk => by injection hk with hk; have := h.cur.le; have := h.cur.lt; omega), grown_newC (grown_newC h.grown g1 (fun k hk => by injection hk with hk; omega)) g2 (fun k hk => by injection hk with hk; omega)⟩
theorem DrT.below {w W W' : World} {g bt lo n : Nat} {cv : Value} (h : DrT w W g bt lo n cv) (hb : Below W.heap.size W W') : DrT w W' g bt lo n cv := by
  obtain ⟨sl, xs, h1, h2, h3, h4⟩ := h.tour
  exact ⟨⟨sl, xs, h1, h2.below hb, h3.below hb, h4⟩, h.box.below hb, h.cur.below hb, grown_belowC h.grown (Below.mono hb h.grown.size)⟩
theorem DrT.drew {w W : World} {g bt lo n : Nat} {cv : Value} (h : DrT w W g bt lo n cv) : DrT w W.drew g bt lo n cv := by
  obtain ⟨sl, xs, h1, h2, h3, h4⟩ := h.tour
  exact ⟨⟨sl, xs, h1, h2, h3, h4⟩, h.box, h.cur.drew, ⟨h.grown.os, h.grown.tape, h.grown.output, h.grown.size, h.grown.block⟩⟩
set_option maxHeartbeats 8000000 in
theorem l05Draw_any (lo : Nat) (w : World) (g : Nat) (cv : Value) (most : Nat) (hm1 : 1 ≤ most) (hm8 : most ≤ 8) (hc : CurB lo w g cv) :
    Calls Try.prog 75 #[.pointer (some ⟨g, 0, none⟩), .int .i64 most] w fun e w' => ∃ (n : Nat) (sl : Value) (xs : List Int), e = .returned (.agg #[.int .i64 n, sl]) ∧ n ≤ most ∧ tourP n xs ∧ Own w' w.heap.size sl xs ∧ w.grownBy w' (some g) := by
  have hgw := hc.lt
  have hrb : w.heap.size ≠ g := by omega
  have HC0 := Lib.hid (hc.below (below_alloc1 w (.cells #[.int .i64 0, .slice none 0 0] 28)))
  have HT0 := Lib.hid (BoxF.new w 0 (.slice none 0 0) 28)
  have hsz0 : (w.alloc (.cells #[.int .i64 0, .slice none 0 0] 28)).heap.size = w.heap.size + 1 := by simp
  have HG0 : Hid (w.grownBy (w.alloc (.cells #[.int .i64 0, .slice none 0 0] 28)) (some g)) := Lib.hid (grown_belowC ⟨rfl, rfl, rfl, Nat.le_refl _, fun _ _ _ => rfl⟩ (below_alloc1 _ _))
  have HS0 := Lib.hid hsz0
  clear hc hsz0
  go_enter Try.func75, Try.ntmps75
  go_wp2_with fail
  generalize w.alloc (.cells #[.int .i64 0, .slice none 0 0] 28) = w0 at *
  go_wp2_with fail
  refine (l02Draw_any lo w0 g cv most hm1 hm8 HC0.out).mono ?_
  rintro e w1 ⟨n, sl, xs, rfl, hnm, hp, ho, hc1, hg1⟩
  have hb1 := below_alloc1 w1 (.cells #[.int .i64 n, sl] 28)
  have hbt : w.heap.size < w1.heap.size := Nat.lt_of_lt_of_le HT0.out.gt hg1.size
  have hn1 : 1 ≤ n := by have := hp.1; omega
  have HD1 : Hid (DrT w (w1.alloc (.cells #[.int .i64 n, sl] 28)) g w1.heap.size lo n cv) := Lib.hid ⟨⟨sl, xs, hp, BoxF.new w1 n sl 28, (ho.below hb1).mono (Nat.le_of_eq HS0.out.symm), fun k hk => by have := (ho.lt k hk).2; omega⟩, (HT0.out.kept hg1 (by simpa using hrb)).below hb1, hc1.below hb1, grown_belowC (HG0.out.trans hg1) (Below.mono hb1 (Nat.le_of_lt hbt))⟩
  obtain ⟨Y0, cy0, rfl, -, -, -⟩ := ho.form
  clear hp ho hc1 hg1 hb1 HC0 HT0 HG0 HS0
  go_wp2_with fail
  generalize w1.alloc (.cells #[.int .i64 n, .slice Y0 xs.length cy0] 28) = w2 at *
  generalize w1.heap.size = bt at *
  go_wp2_with fail
  refine (l01Once_any lo w2 g cv 3 3 rfl (by omega) (by omega) HD1.out.cur).mono ?_
  rintro e w3 ⟨b, rfl, hc3, hg3⟩
  have HD := Lib.hid (HD1.out.cursor hgw hbt hc3 hg3)
  clear hc3 hg3 HD1
  rcases b with _ | _
  · as_aux_lemma =>
      obtain ⟨sl, xs, hp, hx, ho, hne⟩ := HD.out.tour
      obtain ⟨Y, cy, rfl, -, -, -⟩ := ho.form
      have HP := Lib.hid hp
      have y0 := hx.1.1
      have y1 := hx.1.2
      have t0 := HD.out.box.1.1
      have t1 := HD.out.box.1.2
      have f0 := HD.out.box.2 0
      have f1 := HD.out.box.2 1
      have HO' := Lib.hid ((ho.kept (setCell_grown _ ⟨w.heap.size, 0, none⟩ (.int .i64 n)) (own_ne (fun k hk => (ho.lt k hk).1) (by show w.heap.size < w.heap.size + 1; omega))).kept (setCell_grown _ ⟨w.heap.size, 1, none⟩ (.slice Y xs.length cy)) (own_ne (fun k hk => (ho.lt k hk).1) (by show w.heap.size < w.heap.size + 1; omega)))
      have HG' := Lib.hid (grown_newC (grown_newC HD.out.grown (setCell_grown _ ⟨w.heap.size, 0, none⟩ (.int .i64 n)) (fun k hk => by simp at hk; omega)) (setCell_grown _ ⟨w.heap.size, 1, none⟩ (.slice Y xs.length cy)) (fun k hk => by simp at hk; omega))
      have R0 : Hid (((w3.setCell ⟨w.heap.size, 0, none⟩ (.int .i64 n)).setCell ⟨w.heap.size, 1, none⟩ (.slice Y xs.length cy)).cell? ⟨w.heap.size, 0, none⟩ = some (.int .i64 n)) := (World.cell?_setCell_other _ _ _ _ (by simp)).trans (World.cell?_setCell_same _ _ _ t0)
      have R1 : Hid (((w3.setCell ⟨w.heap.size, 0, none⟩ (.int .i64 n)).setCell ⟨w.heap.size, 1, none⟩ (.slice Y xs.length cy)).cell? ⟨w.heap.size, 1, none⟩ = some (.slice Y xs.length cy)) := World.cell?_setCell_same _ _ _ ((World.cell?_setCell_other _ _ _ _ (by simp)).trans t1)
      clear ho hx hne hp
      go_wp2
      have r0 := R0.out
      have r1 := R1.out
      refine bodyPost_ret (v := .agg #[.int .i64 n, .slice Y xs.length cy]) (by simp only [results, Try.results75]; simp [go_sem, r0, r1]) rfl ⟨n, _, xs, rfl, hnm, HP.out, HO'.out.mono (by omega), HG'.out⟩
  · as_aux_lemma =>
      have hgb : g ≠ bt := by omega
      obtain ⟨slo, xso, -, hxo, -, -⟩ := HD.out.tour
      have y0 := hxo.1.1
      have HDD := Lib.hid HD.out.drew
      clear hxo
      go_wp2_with fail
      go_region_held3 (fun W => W.cell? ⟨bt, 0, none⟩ = some (.int .i64 n))
        (first | exact y0 | exact y4 | exact y5 | exact y6 | exact y7)
        (first
          | (go_at_call 126; refine (l02Of_any n hn1 (by omega) 268435455 w3.drew).mono ?_; rintro e w4 ⟨s4, x4, rfl, hp4, ho4, hb4⟩; have HD4 := Lib.hid (HDD.out.below hb4); have HO4 := Lib.hid ho4; have HP4 := Lib.hid hp4; have y4 := (hb4.cell (p := ⟨bt, 0, none⟩) (World.block_lt_of_cell? w3 _ y0)).trans y0; clear ho4 hp4 hb4)
          | (go_at_call 82; refine (l02Order_any lo w4 g cv n (by omega) HD4.out.cur).mono ?_; rintro e w5 ⟨v5, ns, rfl, hP5, ho5, hc5, hg5⟩; have HD5 := Lib.hid (HD4.out.cursor hgw hbt hc5 hg5); have HO45 := Lib.hid (HO4.out.kept hg5 (own_ne (fun k hk => (HO4.out.lt k hk).1) (by have := HD.out.grown.size; exact Nat.lt_of_lt_of_le hgw this))); have HO5 := Lib.hid ho5; have HPP := Lib.hid hP5; have y5 := (World.cell?_of_block (hg5.block bt (World.block_lt_of_cell? w4 _ y4) (by simp; omega))).trans y4; clear ho5 hP5 hc5 hg5)
          | (go_at_call 125; refine (l02Rename_any n s4 x4 ns v5 w5 HO45.out.rd HP4.out HO5.out.rd (by have h1 := HP4.out.2.1; rw [show x4.length = n by omega]; exact HPP.out)).mono ?_; rintro e w6 ⟨s6, rfl, ho6, -, hb6⟩; have HD6 := Lib.hid (HD5.out.below hb6); have HT6 := Lib.hid (rn_tour HP4.out (by have h1 := HP4.out.2.1; rw [show x4.length = n by omega]; exact HPP.out : PermP x4.length ns)); obtain ⟨Y6, cy6, rfl, -, -, -⟩ := ho6.form; have HO6 := Lib.hid ho6; have y6 := (hb6.cell (p := ⟨bt, 0, none⟩) (World.block_lt_of_cell? w5 _ y5)).trans y5; obtain ⟨s9, x9, -, hx9, -, -⟩ := HD6.out.tour; have v0 := hx9.1.1; have v1 := hx9.1.2; have f0 := hx9.2 0; have f1 := hx9.2 1; have y7 : ((w6.setCell ⟨bt, 0, none⟩ (.int .i64 n)).setCell ⟨bt, 1, none⟩ (.slice Y6 (rnL x4 ns).length cy6)).cell? ⟨bt, 0, none⟩ = some (.int .i64 n) := (World.cell?_setCell_other _ _ _ _ (by simp)).trans (World.cell?_setCell_same _ _ _ v0); clear ho6 hb6 hx9))
      have hb5 : bt < w5.heap.size := by
        obtain ⟨_, _, _, hx5, _, _⟩ := HD5.out.tour
        exact hx5.gt
      have HD7 := Lib.hid (HD6.out.put hgw hbt HT6.out (HO6.out.mono (by omega)) (fun k hk => by have := (HO6.out.lt k hk).1; omega))
      clear HD HDD HD4 HO4 HP4 HD5 HO45 HO5 HPP HD6 HT6 HO6 y0 y4 y5 y6 y7 v0 v1 f0 f1 hb5
      generalize (w6.setCell ⟨bt, 0, none⟩ (.int .i64 n)).setCell ⟨bt, 1, none⟩ (.slice Y6 (rnL x4 ns).length cy6) = w7 at *
      go_wp2_with fail
      refine (l01Below_lit lo w7 g cv 3 3 rfl (by omega) (by omega) HD7.out.cur).mono ?_
      rintro e w8 ⟨k8, rfl, hk8, hc8, hg8⟩
      have HD8 := Lib.hid (HD7.out.cursor hgw hbt hc8 hg8)
      clear hc8 hg8 HD7
      go_wp2
      go_loopw [6] (fun t6 wr => ∃ k : Nat, k ≤ 2 ∧ t6 = .int .i64 k ∧ Hid (DrT w wr g bt lo n cv)) (fun t6 _ => (intOf t6).toNat)
      case atStart => exact ⟨k8, by omega, rfl, HD8⟩
      case round =>
        obtain ⟨wo, rfl⟩ : ∃ x, x = wr := ⟨_, rfl⟩
        obtain ⟨k, hk, rfl, HD⟩ := hrel
        clear HD8
        by_cases hgo : 0 < k ∧ 1 < n
        · as_aux_lemma =>
            obtain ⟨hk0, hn2⟩ := hgo
            obtain ⟨k, rfl⟩ : ∃ j, k = j + 1 := ⟨k - 1, by omega⟩
            obtain ⟨slo, xso, -, hxo, -, -⟩ := HD.out.tour
            have y0 := hxo.1.1
            have hn2i : (1 : Int) < (n : Int) := by omega
            clear hxo
            go_wp2_with fail
            refine (l01Below_any lo wo g cv n hn1 (by omega) HD.out.cur).mono ?_
            rintro e w9 ⟨a, rfl, ha, hc9, hg9⟩
            have HD9 := Lib.hid (HD.out.cursor hgw hbt hc9 hg9)
            clear hc9 hg9 HD y0
            obtain ⟨sl, xs, hp, hx, ho, -⟩ := HD9.out.tour
            obtain ⟨Y, cy, rfl, -, -, -⟩ := ho.form
            have y0 := hx.1.1
            have y1 := hx.1.2
            have hxl : xs.length = n := by have := hp.2.1; omega
            have HXL := Lib.hid hxl
            have HP := Lib.hid hp
            have HOX := Lib.hid ho
            have HDD := Lib.hid HD9.out.drew
            have hbt9 := World.block_lt_of_cell? w9 _ y0
            have hEB : ∀ (args : Array Value) (W : World), (callFunc 127 args).run Try.prog W = .ok (.enter 127 args) W := fun args W => by kernel_rfl
            have hEF : ∀ (args : Array Value) (W : World), (callFunc 128 args).run Try.prog W = .ok (.enter 128 args) W := fun args W => by kernel_rfl
            have e4 : IntKind.i64.wrap ((n : Int) - 1) = ((n - 1 : Nat) : Int) := by rw [IntWalk.i64_in _ (by omega)]; omega
            have hCn : (n : Int) ≠ 0 := by omega
            have hCz : n ≠ 0 := by omega
            have hCz2 : ¬ n = 0 := by omega
            rw [hxl] at y1 HOX
            clear hp hx ho hxl
            go_wp2_with fail
            refine wp_region_heldT 14 (fun W => W.cell? ⟨bt, 0, none⟩ = some (.int .i64 n) ∧ W.cell? ⟨bt, 1, none⟩ = some (.slice Y n cy)) (by kernel_rfl) (by kernel_rfl) ⟨y0, y1⟩ (fun hS0 => ?_)
            refine GoT.take (i := 0) (v := ?v0_1) rfl (by kernel_rfl) (by rfl) (by kernel_rfl) (by kernel_rfl) (fun _ _ _ h => h) (Or.inl ⟨by rfl, ?hy0_1⟩) hS0 ?rest0_1
            case hy0_1 =>
              intro W hSw
              (try dsimp only at hSw)
              go_simp
              first | done | (with_reducible rfl)
            try simp only [Act.put, List.setIfInBounds_toArray, List.set_cons_zero, List.set_cons_succ]
            refine GoT.take (i := 1) (v := ?v1_2) rfl (by kernel_rfl) (by rfl) (by kernel_rfl) (by kernel_rfl) (fun _ _ _ h => h) (Or.inl ⟨by rfl, ?hy1_2⟩) hS0 ?rest1_2
            case hy1_2 =>
              intro W hSw
              (try dsimp only at hSw)
              go_simp
              first | done | (with_reducible rfl)
            try simp only [Act.put, List.setIfInBounds_toArray, List.set_cons_zero, List.set_cons_succ]
            refine GoT.take (i := 2) (v := ?v2_3) rfl (by kernel_rfl) (by rfl) (by kernel_rfl) (by kernel_rfl) (fun _ _ _ h => h) (Or.inl ⟨by rfl, ?hy2_3⟩) hS0 ?rest2_3
            case hy2_3 =>
              intro W hSw
              (try dsimp only at hSw)
              go_simp
              first | done | (with_reducible rfl)
            try simp only [Act.put, List.setIfInBounds_toArray, List.set_cons_zero, List.set_cons_succ]
            refine GoT.take (i := 3) (v := ?v3_4) rfl (by kernel_rfl) (by rfl) (by kernel_rfl) (by kernel_rfl) (fun _ _ _ h => h) (Or.inl ⟨by rfl, ?hy3_4⟩) hS0 ?rest3_4
            case hy3_4 =>
              intro W hSw
              (try dsimp only at hSw)
              go_simp
              first | done | (with_reducible rfl)
            try simp only [Act.put, List.setIfInBounds_toArray, List.set_cons_zero, List.set_cons_succ]
            refine GoT.take (i := 4) (v := ?v4_5) rfl (by kernel_rfl) (by rfl) (by kernel_rfl) (by kernel_rfl) (fun _ _ _ h => h) (Or.inl ⟨by rfl, ?hy4_5⟩) hS0 ?rest4_5
            case hy4_5 =>
              intro W hSw
              (try dsimp only at hSw)
              go_simp
              first | done | (with_reducible rfl)
            try simp only [Act.put, List.setIfInBounds_toArray, List.set_cons_zero, List.set_cons_succ]
            refine GoT.take (i := 5) (v := ?v5_6) rfl (by kernel_rfl) (by rfl) (by kernel_rfl) (by kernel_rfl) (fun _ _ _ h => h) (Or.inl ⟨by rfl, ?hy5_6⟩) hS0 ?rest5_6
            case hy5_6 =>
              intro W hSw
              (try dsimp only at hSw)
              go_simp
              first | done | (with_reducible rfl)
            try simp only [Act.put, List.setIfInBounds_toArray, List.set_cons_zero, List.set_cons_succ]
            refine GoT.take (i := 6) (v := ?v6_7) rfl (by kernel_rfl) (by rfl) (by kernel_rfl) (by kernel_rfl) (fun _ _ _ h => h) (Or.inl ⟨by rfl, ?hy6_7⟩) hS0 ?rest6_7
            case hy6_7 =>
              intro W hSw
              (try dsimp only at hSw)
              go_simp
              first | done | (with_reducible rfl)
            try simp only [Act.put, List.setIfInBounds_toArray, List.set_cons_zero, List.set_cons_succ]
            refine GoT.take (i := 7) (v := ?v7_8) rfl (by kernel_rfl) (by rfl) (by kernel_rfl) (by kernel_rfl) (fun _ _ _ h => h) (Or.inl ⟨by rfl, ?hy7_8⟩) hS0 ?rest7_8
            case hy7_8 =>
              intro W hSw
              (try dsimp only at hSw)
              go_simp
              first | done | (with_reducible rfl)
            try simp only [Act.put, List.setIfInBounds_toArray, List.set_cons_zero, List.set_cons_succ]
            refine GoT.take (i := 10) (v := ?v10_9) rfl (by kernel_rfl) (by rfl) (by kernel_rfl) (by kernel_rfl) (fun _ _ _ h => h) (Or.inl ⟨by rfl, ?hy10_9⟩) hS0 ?rest10_9
            case hy10_9 =>
              intro W hSw
              (try dsimp only at hSw)
              go_simp
              first | done | (with_reducible rfl)
            try simp only [Act.put, List.setIfInBounds_toArray, List.set_cons_zero, List.set_cons_succ]
            refine GoT.take (i := 11) (v := ?v11_10) rfl (by kernel_rfl) (by rfl) (by kernel_rfl) (by kernel_rfl) (fun _ _ _ h => h) (Or.inl ⟨by rfl, ?hy11_10⟩) hS0 ?rest11_10
            case hy11_10 =>
              intro W hSw
              (try dsimp only at hSw)
              go_simp
              first | done | (with_reducible rfl)
            try simp only [Act.put, List.setIfInBounds_toArray, List.set_cons_zero, List.set_cons_succ]
            refine GoT.one (i := 8) rfl (by rfl) (by kernel_rfl) (fun K hK => ?_)
            refine step_call w9.drew (by rfl) 127 #[.tmp 40, .tmp 43] _ (by rfl) #[.pointer (some ⟨g, 0, none⟩), .int .i64 ((n - 1 : Nat) : Int)] (by simp [Act.eval, e4]) hEB ((l01Below_any lo w9.drew g cv (n - 1) (by omega) (by omega) HDD.out.cur).mono ?_)
            rintro e w10 ⟨y, rfl, hy, hc10, hg10⟩
            refine ⟨_, rfl, ?_⟩
            have HD10 := Lib.hid (HDD.out.cursor hgw hbt hc10 hg10)
            have z0 := (World.cell?_of_block (hg10.block bt hbt9 (by simp; omega))).trans y0
            have z1 := (World.cell?_of_block (hg10.block bt hbt9 (by simp; omega))).trans y1
            have HO10 := Lib.hid (show Own w10 (w.heap.size + 1) (.slice Y n cy) xs from (show Own w9.drew (w.heap.size + 1) (.slice Y n cy) xs from HOX.out).kept hg10 (own_ne (fun k hk => (HOX.out.lt k hk).1) (by omega)))
            obtain ⟨b, hb, hbC, hba⟩ := other_ex ha hy
            have hr : Int.tmod (IntKind.i64.wrap (IntKind.i64.wrap ((a : Int) + 1) + (y : Int))) (n : Int) = (b : Int) := by
              rw [IntWalk.i64_in ((a : Int) + 1) (by omega), IntWalk.i64_in ((a : Int) + 1 + (y : Int)) (by omega)]; exact hb
            clear hc10 hg10
            refine hK.out _ _ ⟨z0, z1⟩ (fun hS1 => ?_)
            clear hK K
            simp only [Act.put, List.setIfInBounds_toArray, List.set_cons_zero, List.set_cons_succ]
            refine GoT.take (i := 9) (v := ?v9_11) rfl (by kernel_rfl) (by rfl) (by kernel_rfl) (by kernel_rfl) (fun _ _ _ h => h) (Or.inl ⟨by rfl, ?hy9_11⟩) hS1 ?rest9_11
            case hy9_11 =>
              intro W hSw
              (try dsimp only at hSw)
              go_simp
              first | done | (with_reducible rfl)
            try simp only [Act.put, List.setIfInBounds_toArray, List.set_cons_zero, List.set_cons_succ]
            refine GoT.take (i := 12) (v := ?v12_12) rfl (by kernel_rfl) (by rfl) (by kernel_rfl) (by kernel_rfl) (fun _ _ _ h => h) (Or.inl ⟨by rfl, ?hy12_12⟩) hS1 ?rest12_12
            case hy12_12 =>
              intro W hSw
              (try dsimp only at hSw)
              go_simp
              first | done | (with_reducible rfl)
            try simp only [Act.put, List.setIfInBounds_toArray, List.set_cons_zero, List.set_cons_succ]
            refine GoT.one (i := 13) rfl (by rfl) (by kernel_rfl) (fun K hK => ?_)
            refine step_call w10 (by rfl) 128 #[.tmp 36, .tmp 37, .tmp 48] _ (by rfl) #[.agg #[.int .i64 n, .slice Y n cy], .int .i64 a, .int .i64 b] (by simp [Act.eval, hr]) hEF ((l02Flip_any n (.slice Y n cy) xs a b w10 HO10.out.rd (by have := HXL.out; omega) (by have := HXL.out; omega) (by have := HXL.out; omega)).mono ?_)
            rintro e w11 ⟨s11, rfl, ho11, hb11⟩
            refine ⟨_, rfl, ?_⟩
            have HD11 := Lib.hid (HD10.out.below hb11)
            have HT11 := Lib.hid (flip_tour HP.out (a := a) (b := b) (by have := HXL.out; omega) (by have := HXL.out; omega) (Ne.symm hba))
            obtain ⟨Y11, cy11, rfl, -, -, -⟩ := ho11.form
            have HO11 := Lib.hid ho11
            obtain ⟨s12, x12, -, hx12, -, -⟩ := HD11.out.tour
            have v0 := hx12.1.1
            have v1 := hx12.1.2
            have f0 := hx12.2 0
            have f1 := hx12.2 1
            have hbt10 := World.block_lt_of_cell? w10 _ z0
            have z2 := (hb11.cell (p := ⟨bt, 0, none⟩) hbt10).trans z0
            have z3 := (hb11.cell (p := ⟨bt, 1, none⟩) hbt10).trans z1
            clear ho11 hb11 hx12
            refine hK.out _ _ ⟨z2, z3⟩ (fun _ => ?_)
            clear hK K hS0 hS1
            simp only [Act.put, List.setIfInBounds_toArray, List.set_cons_zero, List.set_cons_succ]
            refine GoT.stop (by kernel_rfl) ?_
            have hbt11 : bt < w10.heap.size := hbt10
            have HD12 := Lib.hid (HD11.out.put hgw hbt HT11.out (HO11.out.mono (by omega)) (fun k hk => by have := (HO11.out.lt k hk).1; omega))
            clear HD9 HP HOX HDD HD10 HO10 HD11 HT11 HO11 hr z0 z1 z2 z3 y0 y1
            simp only [List.drop_succ_cons, List.drop_zero]
            go_wp2
            go_roundw
            case rel => exact ⟨k, by omega, rfl, HD12⟩
            case measure => simp [intOf]
        · as_aux_lemma =>
            obtain ⟨slo, xso, -, hxo, -, -⟩ := HD.out.tour
            have y0 := hxo.1.1
            clear hxo
            rcases Nat.eq_zero_or_pos k with hk0 | hk0
            · subst hk0
              clear y0
              obtain ⟨sl, xs, hp, hx, ho, hne⟩ := HD.out.tour
              obtain ⟨Y, cy, rfl, -, -, -⟩ := ho.form
              have HP := Lib.hid hp
              have y0 := hx.1.1
              have y1 := hx.1.2
              have t0 := HD.out.box.1.1
              have t1 := HD.out.box.1.2
              have f0 := HD.out.box.2 0
              have f1 := HD.out.box.2 1
              have HO' := Lib.hid ((ho.kept (setCell_grown _ ⟨w.heap.size, 0, none⟩ (.int .i64 n)) (own_ne (fun k hk => (ho.lt k hk).1) (by show w.heap.size < w.heap.size + 1; omega))).kept (setCell_grown _ ⟨w.heap.size, 1, none⟩ (.slice Y xs.length cy)) (own_ne (fun k hk => (ho.lt k hk).1) (by show w.heap.size < w.heap.size + 1; omega)))
              have HG' := Lib.hid (grown_newC (grown_newC HD.out.grown (setCell_grown _ ⟨w.heap.size, 0, none⟩ (.int .i64 n)) (fun k hk => by simp at hk; omega)) (setCell_grown _ ⟨w.heap.size, 1, none⟩ (.slice Y xs.length cy)) (fun k hk => by simp at hk; omega))
              have R0 : Hid (((wo.setCell ⟨w.heap.size, 0, none⟩ (.int .i64 n)).setCell ⟨w.heap.size, 1, none⟩ (.slice Y xs.length cy)).cell? ⟨w.heap.size, 0, none⟩ = some (.int .i64 n)) := (World.cell?_setCell_other _ _ _ _ (by simp)).trans (World.cell?_setCell_same _ _ _ t0)
              have R1 : Hid (((wo.setCell ⟨w.heap.size, 0, none⟩ (.int .i64 n)).setCell ⟨w.heap.size, 1, none⟩ (.slice Y xs.length cy)).cell? ⟨w.heap.size, 1, none⟩ = some (.slice Y xs.length cy)) := World.cell?_setCell_same _ _ _ ((World.cell?_setCell_other _ _ _ _ (by simp)).trans t1)
              clear ho hx hne hp
              go_wp2
              have r0 := R0.out
              have r1 := R1.out
              refine bodyPost_ret (v := .agg #[.int .i64 n, .slice Y xs.length cy]) (by simp only [results, Try.results75]; simp [go_sem, r0, r1]) rfl ⟨n, _, xs, rfl, hnm, HP.out, HO'.out.mono (by omega), HG'.out⟩
            · have hn2 : ¬ 1 < n := by omega
              have hn2i : decide ((1 : Int) < (n : Int)) = false := by simp; omega
              have hn2j : decide (1 < n) = false := by simp; omega
              have hk1 : (0 : Int) < (k : Int) := by omega
              clear y0
              obtain ⟨sl, xs, hp, hx, ho, hne⟩ := HD.out.tour
              obtain ⟨Y, cy, rfl, -, -, -⟩ := ho.form
              have HP := Lib.hid hp
              have y0 := hx.1.1
              have y1 := hx.1.2
              have t0 := HD.out.box.1.1
              have t1 := HD.out.box.1.2
              have f0 := HD.out.box.2 0
              have f1 := HD.out.box.2 1
              have HO' := Lib.hid ((ho.kept (setCell_grown _ ⟨w.heap.size, 0, none⟩ (.int .i64 n)) (own_ne (fun k hk => (ho.lt k hk).1) (by show w.heap.size < w.heap.size + 1; omega))).kept (setCell_grown _ ⟨w.heap.size, 1, none⟩ (.slice Y xs.length cy)) (own_ne (fun k hk => (ho.lt k hk).1) (by show w.heap.size < w.heap.size + 1; omega)))
              have HG' := Lib.hid (grown_newC (grown_newC HD.out.grown (setCell_grown _ ⟨w.heap.size, 0, none⟩ (.int .i64 n)) (fun k hk => by simp at hk; omega)) (setCell_grown _ ⟨w.heap.size, 1, none⟩ (.slice Y xs.length cy)) (fun k hk => by simp at hk; omega))
              have R0 : Hid (((wo.setCell ⟨w.heap.size, 0, none⟩ (.int .i64 n)).setCell ⟨w.heap.size, 1, none⟩ (.slice Y xs.length cy)).cell? ⟨w.heap.size, 0, none⟩ = some (.int .i64 n)) := (World.cell?_setCell_other _ _ _ _ (by simp)).trans (World.cell?_setCell_same _ _ _ t0)
              have R1 : Hid (((wo.setCell ⟨w.heap.size, 0, none⟩ (.int .i64 n)).setCell ⟨w.heap.size, 1, none⟩ (.slice Y xs.length cy)).cell? ⟨w.heap.size, 1, none⟩ = some (.slice Y xs.length cy)) := World.cell?_setCell_same _ _ _ ((World.cell?_setCell_other _ _ _ _ (by simp)).trans t1)
              clear ho hx hne hp
              go_wp2
              have r0 := R0.out
              have r1 := R1.out
              refine bodyPost_ret (v := .agg #[.int .i64 n, .slice Y xs.length cy]) (by simp only [results, Try.results75]; simp [go_sem, r0, r1]) rfl ⟨n, _, xs, rfl, hnm, HP.out, HO'.out.mono (by omega), HG'.out⟩
end Go.Proofs.Ytajeledbmnndmaa

namespace Go.Proofs.Ytajeledbmnndmaa
open Go.RowKit Go.Sort
set_option maxRecDepth 100000
set_option maxHeartbeats 2000000 in
theorem makeTour_any (w : World) (v : Value) (k m : Int) (n most : Nat) (hk : k = n) (hm : m = most) (hn : n ≤ 1000) (hm1 : 2 ≤ most) (hm8 : most ≤ 7) (hv : BytesV w w.heap.size v) :
    Calls Try.prog 20 #[v, .int .i64 k, .int .i64 m] w fun e w' => ∃ (s : Nat) (sl : Value) (xs : List Int), e = .returned (.agg #[.int .i64 s, sl]) ∧ s ≤ most ∧ tourP s xs ∧ Own w' w.heap.size sl xs ∧ Below w.heap.size w w' := by
  subst hm
  have HV := Lib.hid hv
  have HK := Lib.hid hk
  have HT0 := Lib.hid (BoxF.new w 0 (.slice none 0 0) 28)
  have HB0 := Lib.hid (below_alloc1 w (.cells #[.int .i64 0, .slice none 0 0] 28))
  have e1 : (most : Int) < 8 := by omega
  have e2 : (1 : Int) < (most : Int) := by omega
  clear hv hk
  go_enter Try.func20, Try.ntmps20
  go_wp2_with fail
  generalize w.alloc (.cells #[.int .i64 0, .slice none 0 0] 28) = w0 at *
  have hg0 := HT0.out.gt
  go_wp2_with fail
  refine (l32New_lit w0 v k n HK.out hn ((HV.out.keep fun p hp => HB0.out.cell hp).mono HB0.out.size)).mono ?_
  rintro e w1 ⟨g, rfl, hc1, hb1⟩
  have HC1 := Lib.hid hc1
  have HT1 := Lib.hid (HT0.out.below hb1)
  have HB1 := Lib.hid (Below.then HB0.out hb1)
  have hgw : w.heap.size < g := Nat.lt_of_lt_of_le hg0 hc1.le
  have hw1 : w.heap.size ≤ w1.heap.size := HB1.out.size
  clear hc1 hb1
  go_wp2_with fail
  refine (l05Draw_any w0.heap.size w1 g v most (by omega) (by omega) HC1.out).mono ?_
  rintro e w2 ⟨C, sl, rs, rfl, hC, hr, ho, hg⟩
  obtain ⟨Y, cy, rfl, -, -, -⟩ := ho.form
  have HR := Lib.hid hr
  have T2 := HT1.out.kept hg (by simp; omega)
  have hlt : w.heap.size < w1.heap.size := HT1.out.gt
  have t0 := T2.1.1
  have t1 := T2.1.2
  have f0 := T2.2 0
  have f1 := T2.2 1
  have HO := Lib.hid (((ho.kept (setCell_grown _ ⟨w.heap.size, 0, none⟩ (.int .i64 C)) (own_ne (fun k hk => (ho.lt k hk).1) (by simp; omega))).kept (setCell_grown _ ⟨w.heap.size, 1, none⟩ (.slice Y rs.length cy)) (own_ne (fun k hk => (ho.lt k hk).1) (by simp; omega))))
  have HB2 := Lib.hid (HB1.out.grown hg HB1.out.size (fun k hk => by injection hk with hk; omega))
  have HB := Lib.hid ((HB2.out.setCell (p := ⟨w.heap.size, 0, none⟩) (Nat.le_refl _) (.int .i64 C)).setCell (p := ⟨w.heap.size, 1, none⟩) (Nat.le_refl _) (.slice Y rs.length cy))
  have R0 : Hid (((w2.setCell ⟨w.heap.size, 0, none⟩ (.int .i64 C)).setCell ⟨w.heap.size, 1, none⟩ (.slice Y rs.length cy)).cell? ⟨w.heap.size, 0, none⟩ = some (.int .i64 C)) := (World.cell?_setCell_other _ _ _ _ (by simp)).trans (World.cell?_setCell_same _ _ _ t0)
  have R1 : Hid (((w2.setCell ⟨w.heap.size, 0, none⟩ (.int .i64 C)).setCell ⟨w.heap.size, 1, none⟩ (.slice Y rs.length cy)).cell? ⟨w.heap.size, 1, none⟩ = some (.slice Y rs.length cy)) := World.cell?_setCell_same _ _ _ ((World.cell?_setCell_other _ _ _ _ (by simp)).trans t1)
  clear ho hg T2 hr
  go_wp2
  have r0 := R0.out
  have r1 := R1.out
  refine bodyPost_ret (v := .agg #[.int .i64 C, .slice Y rs.length cy]) (by simp only [results, Try.results20]; simp [go_sem, r0, r1]) rfl ⟨C, _, rs, rfl, hC, HR.out, HO.out.mono (by omega), HB.out⟩
set_option maxHeartbeats 2000000 in
theorem makeOrder_any (w : World) (v : Value) (k : Int) (n s : Nat) (hk : k = n) (hn : n ≤ 1000) (hs1 : 1 ≤ s) (hs8 : s ≤ 7) (hv : BytesV w w.heap.size v) :
    Calls Try.prog 26 #[v, .int .i64 k, .int .i64 s] w fun e w' => ∃ (sl : Value) (ns : List Int), e = .returned sl ∧ PermP s ns ∧ Own w' w.heap.size sl ns ∧ Below w.heap.size w w' := by
  have HV := Lib.hid hv
  have HK := Lib.hid hk
  clear hv hk
  have e1 : (s : Int) < 8 := by omega
  by_cases h1 : s = 1
  · subst h1
    go_enter Try.func26, Try.ntmps26
    go_wp2_with fail
    refine (l32New_lit w v k n HK.out hn HV.out).mono ?_
    rintro e w1 ⟨g, rfl, hc1, hb1⟩
    have HC1 := Lib.hid hc1
    have HB1 := Lib.hid hb1
    clear hc1 hb1
    go_wp2_with fail
    refine (l02Order_any w.heap.size w1 g v 1 (by omega) HC1.out).mono ?_
    rintro e w2 ⟨sl, ns, rfl, hP, ho, hc2, hg⟩
    have hgw := HC1.out.le
    have HB := Lib.hid (HB1.out.grown hg HB1.out.size (fun k hk => by injection hk with hk; omega))
    have HO := Lib.hid (ho.mono HB1.out.size)
    have HP := Lib.hid hP
    obtain ⟨Y, cy, rfl, -, -, -⟩ := ho.form
    clear ho hc2 hg hP
    go_wp2
    go_ret
    exact ⟨_, ns, rfl, HP.out, HO.out, HB.out⟩
  · have e2 : (1 : Int) < (s : Int) := by omega
    go_enter Try.func26, Try.ntmps26
    go_wp2_with fail
    refine (l32New_lit w v k n HK.out hn HV.out).mono ?_
    rintro e w1 ⟨g, rfl, hc1, hb1⟩
    have HC1 := Lib.hid hc1
    have HB1 := Lib.hid hb1
    clear hc1 hb1
    go_wp2_with fail
    refine (l02Order_any w.heap.size w1 g v s (by omega) HC1.out).mono ?_
    rintro e w2 ⟨sl, ns, rfl, hP, ho, hc2, hg⟩
    have hgw := HC1.out.le
    have HB := Lib.hid (HB1.out.grown hg HB1.out.size (fun k hk => by injection hk with hk; omega))
    have HO := Lib.hid (ho.mono HB1.out.size)
    have HP := Lib.hid hP
    obtain ⟨Y, cy, rfl, -, -, -⟩ := ho.form
    clear ho hc2 hg hP
    go_wp2
    go_ret
    exact ⟨_, ns, rfl, HP.out, HO.out, HB.out⟩
end Go.Proofs.Ytajeledbmnndmaa

namespace Go.Proofs.Ytajeledbmnndmaa
open Go.ChangeShapes Go.WideShapes Go.ChangeAt Go.RowKit Go.Joins
set_option maxRecDepth 100000
section
variable {H : Type} {enc : TypeId × Value → H} {W : World} {base b0 : Nat} {spare : Nat → Bool} {held : Bool} {v : Value} {d : DataW H} {p : List MemPlace} {r : Reach}
theorem bytes_of {fuel : Nat} {x : DataW H × List MemPlace} {v : Value} (hf : DataW.trod enc Try.prog W base spare held fuel 36 [v] = some x) : BytesV W W.heap.size v := by
  rcases open_ints Try.underlying36 Try.underlying5 (by kernel_rfl) hf with ⟨hcs, _⟩ | ⟨y, l, c, zs, hcs, _, hl, hm, hz, _, hcell, hwz⟩
  · simp at hcs
    subst hcs
    exact ⟨none, 0, 0, rfl, Nat.le_refl _, by unfold maxLen; omega, fun h => absurd h (by omega)⟩
  · simp at hcs
    subst hcs
    refine ⟨some y, l, c, rfl, hl, hm, fun h0 => ?_⟩
    have hzl : l ≤ zs.length := by rw [hz]; split <;> omega
    obtain ⟨b, off, spot⟩ := y
    have h00 := hcell 0 (by omega)
    have hspot : spot = none := by simpa [Addr.add] using World.cell?_spot h00
    subst hspot
    refine ⟨b, off, rfl, by have := World.block_lt_of_cell? W _ h00; simpa [Addr.add] using this, fun k hk => ?_⟩
    have hb := bounds_u8 (hwz (zs.getD k 0) (by rw [show zs.getD k 0 = zs[k] by simp [show k < zs.length by omega]]; exact List.getElem_mem _))
    obtain ⟨x, hx⟩ := Int.eq_ofNat_of_zero_le hb.1
    refine ⟨x, by omega, ?_⟩
    have := hcell k (by omega)
    rw [Addr.add_lit, hx] at this
    exact this
theorem open_bytesv (hv : Value.okWide Try.prog W r b0 36 v) (h : DataW.Trod enc Try.prog W base spare held 36 v d p) : BytesV W W.heap.size v := by
  obtain ⟨a0, len0, cap0, rfl⟩ := okWide_slice Try.underlying36 hv
  obtain ⟨fuel, hf⟩ := h
  exact bytes_of hf
end
end Go.Proofs.Ytajeledbmnndmaa

namespace Go.Proofs.Ytajeledbmnndmaa
open Go.RowKit Go.Sort
set_option maxRecDepth 100000
section
variable {n : Nat} {xs : List Int} {sl : Value} {w : World}
theorem cReach (hp : tourP n xs) (h : Rd w sl xs) (a : Nat) (ha : a < n) : Calls Try.prog 34 #[.agg #[.int .i64 n, sl], .int .i64 a] w fun e w' => e = .returned (.int .i64 (reachN xs a : Nat)) ∧ Below w.heap.size w w' := by
  have := implReachOf n sl xs a w h
  rwa [show reachI n xs a = (reachN xs a : Nat) by unfold reachI; rw [tourB_true.2 hp, show inB (a : Int) 0 ((n : Int) - 1) = true from inB_true.2 ⟨by omega, by omega⟩, Int.toNat_natCast]; simp] at this
theorem cPartOf (h : Rd w sl xs) (a i : Nat) (hi : partI n xs a = i) : Calls Try.prog 35 #[.agg #[.int .i64 n, sl], .int .i64 a] w fun e w' => e = .returned (.int .i64 i) ∧ Below w.heap.size w w' := by
  have := implPartOf n sl xs a w h
  rwa [hi] at this
theorem cCycle (h : Rd w sl xs) (a k : Nat) {b : Bool} (hb : (cycO n xs a k).isSome = b) {L : List Int} (hL : cycL n xs a k = L) {m : Nat} (hm : L.length = m) : Calls Try.prog 38 #[.agg #[.int .i64 n, sl], .int .i64 a, .int .i64 k] w fun e w' => ∃ A c, e = .returned (.tuple #[.slice A m c, .bool b]) ∧ Own w' w.heap.size (.slice A m c) L ∧ Below w.heap.size w w' :=
  (implCycle n sl xs a k w h).mono fun e w' ⟨v, h1, h2, h3⟩ => by
    rw [hb] at h1
    rw [hL] at h2
    obtain ⟨A, c, rfl, -⟩ := h2.form
    rw [hm] at h1 h2
    exact ⟨A, c, h1, h2, h3⟩
theorem cWayB (h : Rd w sl xs) (a k : Nat) {b : Bool} (hb : (wbO n xs a k).isSome = b) {L : List Int} (hL : wbL n xs a k = L) {m : Nat} (hm : L.length = m) : Calls Try.prog 40 #[.agg #[.int .i64 n, sl], .int .i64 a, .int .i64 k] w fun e w' => ∃ A c, e = .returned (.tuple #[.slice A m c, .bool b]) ∧ Own w' w.heap.size (.slice A m c) L ∧ Below w.heap.size w w' :=
  (implWB n sl xs a k w h).mono fun e w' ⟨v, h1, h2, h3⟩ => by
    rw [hb] at h1
    rw [hL] at h2
    obtain ⟨A, c, rfl, -⟩ := h2.form
    rw [hm] at h1 h2
    exact ⟨A, c, h1, h2, h3⟩
theorem cIsCycle (h : Rd w sl xs) {yv : Value} {L : List Int} (h2 : Rd w yv L) {b : Bool} (hb : cycB n xs L = b) : Calls Try.prog 39 #[.agg #[.int .i64 n, sl], yv] w fun e w' => e = .returned (.bool b) ∧ Below w.heap.size w w' := by
  have := implIsCycle n sl xs yv L w h h2
  rwa [hb] at this
theorem cIsWay (h : Rd w sl xs) {yv : Value} {L : List Int} (h2 : Rd w yv L) {b : Bool} (hb : wayB n xs L = b) : Calls Try.prog 41 #[.agg #[.int .i64 n, sl], yv] w fun e w' => e = .returned (.bool b) ∧ Below w.heap.size w w' := by
  have := implIsWay n sl xs yv L w h h2
  rwa [hb] at this
theorem cFlipG (hp : tourP n xs) (h : Rd w sl xs) (a b : Nat) (ha : a < n) (hb : b < n) (hab : a ≠ b) : Calls Try.prog 43 #[.agg #[.int .i64 n, sl], .int .i64 a, .int .i64 b] w fun e w' => ∃ A c, e = .returned (.tuple #[.agg #[.int .i64 n, .slice A n c], .bool true]) ∧ Own w' w.heap.size (.slice A n c) (flipL xs a b) ∧ Below w.heap.size w w' :=
  (implFlip n sl xs a b w h).mono fun e w' ⟨v, h1, h2, h3⟩ => by
    have hok : flOk n xs a b = true := by
      unfold flOk
      rw [tourB_true.2 hp, show inB (a : Int) 0 ((n : Int) - 1) = true from inB_true.2 ⟨by omega, by omega⟩, show inB (b : Int) 0 ((n : Int) - 1) = true from inB_true.2 ⟨by omega, by omega⟩]
      simp
      omega
    unfold flS at h1
    unfold flL at h2
    rw [hok, if_pos rfl] at h1
    rw [hok, if_pos rfl, Int.toNat_natCast, Int.toNat_natCast] at h2
    obtain ⟨A, c, rfl, -⟩ := h2.form
    rw [flipL_len, tour_len hp] at h1 h2
    exact ⟨A, c, h1, h2, h3⟩
end
theorem parts_pos {n : Nat} {xs : List Int} (hp : tourP n xs) : 1 ≤ (partsN xs (2 ^ n - 1)).length := by
  refine Nat.pos_of_ne_zero fun h => ?_
  have h1 := pt_start hp
  rw [← h] at h1
  have h2 := pt_end hp h1
  have := Nat.pow_le_pow_right (n := 2) (by decide) (show 1 ≤ n by have := hp.1; omega)
  omega
end Go.Proofs.Ytajeledbmnndmaa

namespace Go.Proofs.Ytajeledbmnndmaa
open Go.RowKit Go.Sort
theorem step_appendG {ops : Array Oper} {o : Oper} {a : Act} {K : Act → World → Prop} {Q : Exit → Act → World → Prop} {E : Prop} (w : World) (hw : Region.wanted o (yielded ops a.tmps) = true) (s x : Operand)
    (ho : o.op = .call { callee := .builtin .append, args := #[s, x], argTypes := #[22, 22] })
    (base : Nat) (v : Value) (xs ys zs : List Int) (hz : xs ++ ys = zs) (l m r : Nat) (hl : xs.length = l) (hm : ys.length = m) (hr0 : l + m = r) (ad : Addr) (c : Nat) (hs : a.eval s = v) (hown : Own w base v xs) (hx : a.eval x = .slice (some ad) m c) (hc : ∀ k, k < m → w.cell? (ad.add k) = some (.int .i64 (ys.getD k 0)))
    (hlen : l + m ≤ 1099511627776) (hbase : base ≤ w.heap.size)
    (h : ∀ A c' w', Own w' base (.slice A r c') zs → w.grownBy w' v.ownBlock → K (a.put o.dst (.slice A r c')) w') :
    if Region.wanted o (yielded ops a.tmps) = true then Oper.wp Try.prog o a w K Q else E := by
  subst hm hl hr0 hz
  rw [if_pos hw]
  obtain ⟨i0, hi, hz0, hz1, hz2⟩ := info_parts i64_info
  have hnews : ∀ j u, (ys.map (Value.int .i64))[j]? = some u → w.cell? (ad.add j) = some u := by
    intro j u hj
    have hjl : j < ys.length := by simpa using (List.getElem?_eq_some_iff.1 hj).1
    rw [hc j hjl]
    simp [hjl] at hj
    simp [hjl, hj]
  obtain ⟨v', w', hr, h2, h3, -, -⟩ := run_append_own_at (P := Try.prog) w base 22 o.type 3 i0 (.int .i64 0) 1 8 Try.underlying22 hi hz0 hz1 hz2 rfl (by decide) v xs.length (xs.map (Value.int .i64)) hown ad ys.length c (ys.map (Value.int .i64)) (by simp) hnews (by intro u hu; simp at hu; obtain ⟨y, -, rfl⟩ := hu; rfl) (by unfold maxLen; omega) (by omega) hbase
  have h2' : Own w' base v' (xs ++ ys) := by unfold Own; rw [List.length_append, List.map_append]; exact h2
  obtain ⟨A, c', e, -⟩ := h2'.form
  subst e
  rw [List.length_append] at h2' hr
  unfold Oper.wp execOp
  simp only [ho, resolve, invoke, builtin, Sem.run_bind, Sem.run_pure, Result.andThen_ok, List.map_toArray, List.map_cons, List.map_nil, hs, hx, hr]
  exact h A c' w' h2' h3
theorem half_walk {h : Nat} (hh : h ≤ 7) : IntKind.i64.wrap (h : Int) = (h : Int) ∧ wrap64 (h : Int) = (h : Int) := ⟨IntWalk.i64_in _ (by omega), by unfold wrap64; omega⟩
theorem half_facts {h a cw : Nat} (hh : h ≤ a) (h7 : a ≤ 7) (h1 : 1 ≤ a) (hc : a ≤ cw) (h3 : a < 3) : (h : Int) ≤ (cw : Int) ∧ (0 : Int) ≤ (h : Int) ∧ h ≤ cw ∧ ¬ cw = 0 ∧ ¬ (cw : Int) = 0 ∧ (0 : Int) ≤ (cw : Int) ∧ ¬ (cw : Int) < (h : Int) ∧ ¬ (h : Int) < 0 ∧ IntKind.i64.wrap (h : Int) = (h : Int) ∧ wrap64 (h : Int) = (h : Int) ∧ decide ((a : Int) < 3) = true ∧ decide (a < 3) = true ∧ (a : Int) < 3 :=
  ⟨by omega, by omega, by omega, by omega, by omega, by omega, by omega, by omega, (half_walk (Nat.le_trans hh h7)).1, (half_walk (Nat.le_trans hh h7)).2, decide_eq_true (by omega), decide_eq_true h3, by omega⟩
theorem half_facts2 {h a cw : Nat} (hh : h ≤ a) (h7 : a ≤ 7) (h1 : 1 ≤ a) (hc : a ≤ cw) (h3 : ¬ a < 3) : (h : Int) ≤ (cw : Int) ∧ (0 : Int) ≤ (h : Int) ∧ h ≤ cw ∧ ¬ cw = 0 ∧ ¬ (cw : Int) = 0 ∧ (0 : Int) ≤ (cw : Int) ∧ ¬ (cw : Int) < (h : Int) ∧ ¬ (h : Int) < 0 ∧ IntKind.i64.wrap (h : Int) = (h : Int) ∧ wrap64 (h : Int) = (h : Int) ∧ decide ((a : Int) < 3) = false ∧ decide (a < 3) = false ∧ ¬ (a : Int) < 3 :=
  ⟨by omega, by omega, by omega, by omega, by omega, by omega, by omega, by omega, (half_walk (Nat.le_trans hh h7)).1, (half_walk (Nat.le_trans hh h7)).2, decide_eq_false (by omega), decide_eq_false h3, by omega⟩
theorem one_cell {w : World} {g : Nat} {x : Int} (h : w.cell? ⟨g, 0, none⟩ = some (.int .i64 x)) : ∀ k, k < 1 → w.cell? ((⟨g, 0, none⟩ : Addr).add k) = some (.int .i64 (([x] : List Int).getD k 0)) := fun k hk => by
  obtain rfl : k = 0 := by omega
  exact h
end Go.Proofs.Ytajeledbmnndmaa

