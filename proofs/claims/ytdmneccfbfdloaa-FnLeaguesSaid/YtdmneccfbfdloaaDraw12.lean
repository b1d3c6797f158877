/- A league is drawn. -/
import Derived.Test.YtdmneccfbfdloaaCur
import Derived.Test.YtdmneccfbfdloaaAppR
import Derived.Test.YtdmneccfbfdloaaResC
import Derived.Test.YtdmneccfbfdloaaAddR
import Derived.Test.YtdmneccfbfdloaaCallS
import Derived.Deep.RegionHeld3
import Derived.Deep.RegionLaw
namespace Go.Proofs.Ytdmneccfbfdloaa
open Go.RowKit Go.Sort
set_option maxRecDepth 100000
theorem CurB.drew {lo : Nat} {w : World} {g : Nat} {v : Value} (h : CurB lo w g v) : CurB lo w.drew g v := ⟨h.cells, h.frz, h.bytes, h.le⟩
/-- one block and what is new -/
theorem grown_below {w w1 w2 : World} {g : Nat} (h : w.grownBy w1 (some g)) (hb : Below w.heap.size w1 w2) : w.grownBy w2 (some g) :=
  ⟨hb.os.trans h.os, hb.tape.trans h.tape, hb.output.trans h.output, Nat.le_trans h.size hb.size, fun k hk hne => (hb.block k hk).trans (h.block k hk hne)⟩
theorem grown_new {w w1 w2 : World} {g : Nat} {row : Option Nat} (h : w.grownBy w1 (some g)) (hg : w1.grownBy w2 row) (hr : ∀ k, row = some k → w.heap.size ≤ k) : w.grownBy w2 (some g) :=
  grown_below h ((Below.refl w.heap.size w1).grown hg h.size hr)
theorem grown_drew {w w1 : World} {row : Option Nat} (h : w.grownBy w1 row) : w.grownBy w1.drew row := ⟨h.os, h.tape, h.output, h.size, h.block⟩
theorem other_mod {a y C : Nat} (ha : a < C) (hy : y < C - 1) : (a + 1 + y) % C < C ∧ (a + 1 + y) % C ≠ a := by
  refine ⟨Nat.mod_lt _ (by omega), ?_⟩
  rcases Nat.lt_or_ge (a + 1 + y) C with h | h
  · rw [Nat.mod_eq_of_lt h]; omega
  · rw [Nat.mod_eq_sub_mod h, Nat.mod_eq_of_lt (by omega)]; omega
theorem other_ex {a y C : Nat} (ha : a < C) (hy : y < C - 1) : ∃ b : Nat, Int.tmod ((a : Int) + 1 + (y : Int)) (C : Int) = (b : Int) ∧ b < C ∧ b ≠ a :=
  ⟨(a + 1 + y) % C, by rw [Int.tmod_eq_emod_of_nonneg (by omega)]; simp, (other_mod ha hy).1, (other_mod ha hy).2⟩
set_option maxHeartbeats 8000000 in
theorem l12Draw_any (lo : Nat) (w : World) (g : Nat) (cv : Value) (hc : CurB lo w g cv) :
    Calls Try.prog 43 #[.pointer (some ⟨g, 0, none⟩)] w fun e w' => ∃ (C : Nat) (rs : List R4) (sl : Value), e = .returned (.agg #[.int .i64 C, sl]) ∧ 2 ≤ C ∧ C ≤ 6 ∧ rs.length ≤ 11 ∧ (∀ r ∈ rs, resB C r = true) ∧ OwnR w' w.heap.size sl rs ∧ w.grownBy w' (some g) := by
  have hgw := hc.lt
  have hE66 : ∀ (args : Array Value) (W : World), (callFunc 66 args).run Try.prog W = .ok (.enter 66 args) W := fun args W => by kernel_rfl
  have HC0 := Lib.hid (hc.below (below_alloc1 w (.cells #[.int .i64 0, .slice none 0 0] 36)))
  have HT0 := Lib.hid (BoxF.new w 0 (.slice none 0 0) 36)
  have HG0 : Hid (w.grownBy (w.alloc (.cells #[.int .i64 0, .slice none 0 0] 36)) (some g)) := Lib.hid (grown_below ⟨rfl, rfl, rfl, Nat.le_refl _, fun _ _ _ => rfl⟩ (below_alloc1 _ _))
  clear hc
  go_enter Try.func43, Try.ntmps43
  go_wp2_with fail
  generalize w.alloc (.cells #[.int .i64 0, .slice none 0 0] 36) = w0 at *
  go_wp2_with fail
  refine (l01Below_lit lo _ g cv 5 5 rfl (by omega) (by omega) HC0.out).mono ?_
  rintro e w1 ⟨x, rfl, hx, hc1, hg1⟩
  obtain ⟨C, hC⟩ : ∃ C : Nat, C = 2 + x := ⟨_, rfl⟩
  have eC : (2 : Int) + (x : Int) = (C : Int) := by omega
  have hC2 : 2 ≤ C := by omega
  have hC6 : C ≤ 6 := by omega
  have hb1 := below_alloc1 w1 (.cells #[.int .i64 C, .slice none 0 0] 36)
  have hrb : w.heap.size ≠ g := by omega
  have hsz1 := hg1.size
  have hbx : w.heap.size < w1.heap.size := Nat.lt_of_lt_of_le HT0.out.gt hsz1
  have HC1 := Lib.hid (hc1.below hb1)
  have HT1 := Lib.hid ((HT0.out.kept hg1 (by simpa using hrb)).below hb1)
  have HX1 := Lib.hid (BoxF.new w1 C (.slice none 0 0) 36)
  have HG1 := Lib.hid (grown_below (HG0.out.trans hg1) (Below.mono hb1 (Nat.le_of_lt hbx)))
  clear hC hc1 hg1 hb1 HC0 HT0 HG0 hsz1
  go_wp2_with fail
  generalize w1.alloc (.cells #[.int .i64 C, .slice none 0 0] 36) = w2 at *
  generalize w1.heap.size = bx at *
  have hgx : g ≠ bx := by omega
  have e4 : IntKind.i64.wrap ((C : Int) - 1) = ((C - 1 : Nat) : Int) := by rw [IntWalk.i64_in _ (by omega)]; omega
  go_wp2_with fail
  refine (l01Below_lit lo _ g cv 12 12 rfl (by omega) (by omega) HC1.out).mono ?_
  rintro e w3 ⟨x3, rfl, hx3, hc3, hg3⟩
  have HC3 := Lib.hid hc3
  have HT3 := Lib.hid (HT1.out.kept hg3 (by simpa using hrb))
  have HX3 := Lib.hid (HX1.out.kept hg3 (by simpa using fun e => hgx e.symm))
  have HG3 := Lib.hid (HG1.out.trans hg3)
  clear hc3 hg3 HC1 HT1 HX1 HG1
  go_wp2
  go_loopw [4] (fun i wr => ∃ (k : Nat) (rs : List R4) (V : Value), i = .int .i64 k ∧ rs.length + k ≤ 11 ∧ Hid (OwnR wr (bx + 1) V rs) ∧ Hid (BoxF wr bx C V) ∧ Hid (BoxF wr w.heap.size 0 (.slice none 0 0)) ∧ Hid (CurB lo wr g cv) ∧ Hid (w.grownBy wr (some g)) ∧ Hid (∀ r ∈ rs, resB C r = true)) (fun i _ => (intOf i).toNat)
  case atStart => exact ⟨x3, [], _, rfl, by simp; omega, Lib.hid (OwnR.nil_ _ _), HX3, HT3, HC3, HG3, Lib.hid (fun r hr => absurd hr (by simp))⟩
  case round =>
    obtain ⟨wo, rfl⟩ : ∃ x, x = wr := ⟨_, rfl⟩
    obtain ⟨k, rs, V, rfl, hlk, HO, HX, HT, HC, HG, HR⟩ := hrel
    clear HC3 HT3 HX3 HG3
    obtain ⟨Y, cy, rfl, hcy, hly, -⟩ := HO.out.form
    unfold maxLen at hcy
    rcases Nat.eq_zero_or_pos k with h0 | h0
    · subst h0
      have x0 := HX.out.1.1
      have x1 := HX.out.1.2
      have t0 := HT.out.1.1
      have t1 := HT.out.1.2
      have f0 := HT.out.2 0
      have f1 := HT.out.2 1
      have HO' := Lib.hid ((HO.out.kept (setCell_grown _ ⟨w.heap.size, 0, none⟩ (.int .i64 C)) (own_ne (fun k hk => (HO.out.lt k hk).1) (by simp; omega))).kept (setCell_grown _ ⟨w.heap.size, 1, none⟩ (.slice Y rs.length cy)) (own_ne (fun k hk => (HO.out.lt k hk).1) (by simp; omega)))
      have HG' := Lib.hid (grown_new (grown_new HG.out (setCell_grown _ ⟨w.heap.size, 0, none⟩ (.int .i64 C)) (fun k hk => by simp at hk; omega)) (setCell_grown _ ⟨w.heap.size, 1, none⟩ (.slice Y rs.length cy)) (fun k hk => by simp at hk; omega))
      have R0 : Hid (((wo.setCell ⟨w.heap.size, 0, none⟩ (.int .i64 C)).setCell ⟨w.heap.size, 1, none⟩ (.slice Y rs.length cy)).cell? ⟨w.heap.size, 0, none⟩ = some (.int .i64 C)) := (World.cell?_setCell_other _ _ _ _ (by simp)).trans (World.cell?_setCell_same _ _ _ t0)
      have R1 : Hid (((wo.setCell ⟨w.heap.size, 0, none⟩ (.int .i64 C)).setCell ⟨w.heap.size, 1, none⟩ (.slice Y rs.length cy)).cell? ⟨w.heap.size, 1, none⟩ = some (.slice Y rs.length cy)) := World.cell?_setCell_same _ _ _ ((World.cell?_setCell_other _ _ _ _ (by simp)).trans t1)
      go_wp2
      have r0 := R0.out
      have r1 := R1.out
      refine bodyPost_ret (v := .agg #[.int .i64 C, .slice Y rs.length cy]) (by simp only [results, Try.results43]; simp [go_sem, r0, r1]) rfl ⟨C, rs, _, rfl, hC2, hC6, by omega, HR.out, HO'.out.mono (by omega), HG'.out⟩
    · obtain ⟨k, rfl⟩ : ∃ j, k = j + 1 := ⟨k - 1, by omega⟩
      have x0 := HX.out.1.1
      have x1 := HX.out.1.2
      go_wp2_with fail
      refine (l01Below_any lo _ g cv C (by omega) (by omega) HC.out).mono ?_
      rintro e w4 ⟨a, rfl, ha, hc4, hg4⟩
      have HC4 := Lib.hid hc4
      have HX4 := Lib.hid (HX.out.kept hg4 (by simpa using fun e => hgx e.symm))
      have HT4 := Lib.hid (HT.out.kept hg4 (by simpa using hrb))
      have HG4 := Lib.hid (HG.out.trans hg4)
      have HO4 := Lib.hid (HO.out.kept hg4 (own_ne (fun k hk => (HO.out.lt k hk).1) (by omega)))
      clear hc4 hg4 HC HX HT HG HO x0 x1
      have x0 := HX4.out.1.1
      have x1 := HX4.out.1.2
      have hCn : (C : Int) ≠ 0 := by omega
      have hCz : C ≠ 0 := by omega
      have hCz2 : ¬ C = 0 := by omega
      have hCd : decide (C = 0) = false := by simp; omega
      have hCb : ((C : Int) == 0) = false := by simp; omega
      have hCp : (0 : Int) < (C : Int) := by omega
      have ha0 : (0 : Int) ≤ (a : Int) := by omega
      go_wp2_with fail
      go_region_held3 (fun W => W.cell? ⟨bx, 0, none⟩ = some (.int .i64 C))
        (first | exact x0 | exact z0)
        (first | (go_at_call 66; refine (l01Below_any lo w4.drew g cv (C - 1) (by omega) (by omega) HC4.out.drew).mono ?_; rintro e w5 ⟨y, rfl, hy, hc5, hg5⟩; have hg5 : w4.grownBy w5 (some g) := ⟨hg5.os, hg5.tape, hg5.output, hg5.size, hg5.block⟩; have HC5 := Lib.hid hc5; have HX5 := Lib.hid (HX4.out.kept hg5 (by simpa using fun e => hgx e.symm)); have HT5 := Lib.hid (HT4.out.kept hg5 (by simpa using hrb)); have HG5 := Lib.hid (HG4.out.trans hg5); have HO5 := Lib.hid (HO4.out.kept hg5 (own_ne (fun k hk => (HO4.out.lt k hk).1) (by omega))); have z0 := HX5.out.1.1; obtain ⟨b, hb, hbC, hba⟩ := other_ex ha hy; have hr : Int.tmod ((a : Int) + 1 + (y : Int)) (C : Int) = (b : Int) := hb; have he : ((a : Int) + 1 + (y : Int)) % (C : Int) = (b : Int) := (Int.tmod_eq_emod_of_nonneg (show (0 : Int) ≤ (a : Int) + 1 + (y : Int) by omega)).symm.trans hb; clear hc5 hg5 hb))
      all_goals
        have hraw : Int.tmod (IntKind.i64.wrap (IntKind.i64.wrap ((a : Int) + 1) + (y : Int))) (C : Int) = (b : Int) := by
          rw [IntWalk.i64_in ((a : Int) + 1) (by omega), IntWalk.i64_in ((a : Int) + 1 + (y : Int)) (by omega), hr]
        simp only [hraw]
        clear hraw he hr HC4 HX4 HT4 HG4 HO4 x0 x1
        have x0 := HX5.out.1.1
        have x1 := HX5.out.1.2
        clear z0
        go_wp2_with fail
        refine (l01Below_lit lo _ g cv 4 4 rfl (by omega) (by omega) HC5.out).mono ?_
        rintro e w6 ⟨p, rfl, hp, hc6, hg6⟩
        have HC6 := Lib.hid hc6
        have HX6 := Lib.hid (HX5.out.kept hg6 (by simpa using fun e => hgx e.symm))
        have HT6 := Lib.hid (HT5.out.kept hg6 (by simpa using hrb))
        have HG6 := Lib.hid (HG5.out.trans hg6)
        have HO6 := Lib.hid (HO5.out.kept hg6 (own_ne (fun k hk => (HO5.out.lt k hk).1) (by omega)))
        clear hc6 hg6 HC5 HX5 HT5 HG5 HO5 x0 x1
        have x0 := HX6.out.1.1
        have x1 := HX6.out.1.2
        have hl1 : rs.length + 1 ≤ 1099511627776 := by omega
        have HRLN : ∀ q : Nat, Hid ((rs ++ [((a : Int), (b : Int), (p : Int), (q : Int))]).length = rs.length + 1) := fun q => by unfold Hid; simp
        go_wp2_with fail
        go_region_law
          (first
            | (refine step_appendR (w7.alloc (.cells #[.int .i64 a, .int .i64 b, .int .i64 p, .int .i64 q] 52)) (by rfl) (.tmp 36) (.tmp 43) (by rfl) (bx + 1) (.slice Y rs.length cy) rs [((a : Int), (b : Int), (p : Int), (q : Int))] 1 rfl ⟨_, 0, none⟩ 1 (by simp [Act.eval]) HO7.out (by simp [Act.eval]) (four_one HR7.out) hl1 HSZ.out ?_; intro v8 w8 ho8 hg8; obtain ⟨Y8, c8, e8, -, -, -⟩ := ho8.form; rw [(HRLN q).out] at e8; subst e8; have HO8 := Lib.hid ho8; have X8 := HX7.out.kept hg8 (nb_ne (own_ne (fun k hk => (HO7.out.lt k hk).1) (by omega))); have HX8 := Lib.hid X8; have HT8 := Lib.hid (HT7.out.kept hg8 (nb_ne (own_ne (fun k hk => (HO7.out.lt k hk).1) (by omega)))); have HC8 := Lib.hid (HC7.out.kept hg8 (fun k hk => by have h1 := (HO7.out.lt k hk).1; have h2 := HC7.out.le; omega)); have HG8 := Lib.hid (grown_new HG7.out hg8 (fun k hk => by have := (HO7.out.lt k hk).1; omega)); have z3 := X8.1.2; have z4 := X8.2 1; clear ho8 hg8 X8)
            | (refine step_call w6.drew (by rfl) 66 #[.tmp 40, .const (.int .i64 4)] _ (by rfl) #[.pointer (some ⟨g, 0, none⟩), .int .i64 4] (by simp [Act.eval, Act.put]) hE66 ((l01Below_lit lo w6.drew g cv 4 4 rfl (by omega) (by omega) HC6.out.drew).mono ?_); rintro e w7 ⟨q, rfl, hq, hc7, hg7⟩; refine ⟨_, rfl, ?_⟩; have hg7 : w6.grownBy w7 (some g) := ⟨hg7.os, hg7.tape, hg7.output, hg7.size, hg7.block⟩; have HC7 := Lib.hid (hc7.below (below_alloc1 w7 (.cells #[.int .i64 a, .int .i64 b, .int .i64 p, .int .i64 q] 52))); have X7 := HX6.out.kept hg7 (by simpa using fun e => hgx e.symm); have HX7 := Lib.hid (X7.below (below_alloc1 w7 (.cells #[.int .i64 a, .int .i64 b, .int .i64 p, .int .i64 q] 52))); have HT7 := Lib.hid ((HT6.out.kept hg7 (by simpa using hrb)).below (below_alloc1 w7 (.cells #[.int .i64 a, .int .i64 b, .int .i64 p, .int .i64 q] 52))); have HG7 := Lib.hid (grown_below (HG6.out.trans hg7) (Below.mono (below_alloc1 w7 (.cells #[.int .i64 a, .int .i64 b, .int .i64 p, .int .i64 q] 52)) (HG6.out.trans hg7).size)); have HO7 := Lib.hid (show OwnR (w7.alloc (.cells #[.int .i64 a, .int .i64 b, .int .i64 p, .int .i64 q] 52)) (bx + 1) (.slice Y rs.length cy) rs from World.ownsRow.alloc (HO6.out.kept hg7 (own_ne (fun k hk => (HO6.out.lt k hk).1) (by omega))) _); have HR7 := Lib.hid (four_new w7 ((a : Int), (b : Int), (p : Int), (q : Int)) 52); have z1 := X7.1.2; have z2 := HX7.out.1.2; have HSZ := Lib.hid (show bx + 1 ≤ (w7.alloc (.cells #[.int .i64 a, .int .i64 b, .int .i64 p, .int .i64 q] 52)).heap.size from HX7.out.gt); clear hc7 hg7 X7))
        all_goals
          have HX9 := Lib.hid (HX8.out.set1 (.slice Y8 (rs.length + 1) c8))
          have HO9 := Lib.hid (HO8.out.kept (setCell_grown _ ⟨bx, 1, none⟩ (.slice Y8 (rs.length + 1) c8)) (own_ne (fun k hk => (HO8.out.lt k hk).1) (by simp)))
          have HT9 := Lib.hid (HT8.out.kept (setCell_grown _ ⟨bx, 1, none⟩ (.slice Y8 (rs.length + 1) c8)) (by simp; omega))
          have HC9 := Lib.hid (HC8.out.kept (setCell_grown _ ⟨bx, 1, none⟩ (.slice Y8 (rs.length + 1) c8)) (fun k hk => by have := HC8.out.le; simp at hk; omega))
          have HG9 := Lib.hid (grown_new HG8.out (setCell_grown _ ⟨bx, 1, none⟩ (.slice Y8 (rs.length + 1) c8)) (fun k hk => by simp at hk; omega))
          have HR9 : Hid (∀ r ∈ rs ++ [((a : Int), (b : Int), (p : Int), (q : Int))], resB C r = true) := Lib.hid (fun r hr => by
            rw [List.mem_append, List.mem_singleton] at hr
            rcases hr with hr | rfl
            · exact HR.out r hr
            · rw [resB_true]; simp only; omega)
          clear HX8 HO8 HT8 HC8 HG8 x0 x1 z1 z2 z3
          go_wp2
          go_roundw
          case rel => exact ⟨k, _, _, rfl, by first | (simp; done) | (simp; omega), HO9, HX9, HT9, HC9, HG9, HR9⟩
          case measure => simp [intOf]
theorem makeLeague_any (w : World) (v : Value) (k : Int) (n : Nat) (hk : k = n) (hn : n ≤ 1000) (hv : BytesV w w.heap.size v) :
    Calls Try.prog 20 #[v, .int .i64 k] w fun e w' => ∃ (C : Nat) (rs : List R4) (sl : Value), e = .returned (.agg #[.int .i64 C, sl]) ∧ 2 ≤ C ∧ C ≤ 6 ∧ rs.length ≤ 11 ∧ (∀ r ∈ rs, resB C r = true) ∧ OwnR w' w.heap.size sl rs ∧ Below w.heap.size w w' := by
  have HV := Lib.hid hv
  have HK := Lib.hid hk
  have HT0 := Lib.hid (BoxF.new w 0 (.slice none 0 0) 36)
  have HB0 := Lib.hid (below_alloc1 w (.cells #[.int .i64 0, .slice none 0 0] 36))
  clear hv hk
  go_enter Try.func20, Try.ntmps20
  go_wp2_with fail
  generalize w.alloc (.cells #[.int .i64 0, .slice none 0 0] 36) = w0 at *
  have hg0 := HT0.out.gt
  go_wp2_with fail
  refine (l32New_lit w0 v k n HK.out hn ((HV.out.keep fun p hp => HB0.out.cell hp).mono HB0.out.size)).mono ?_
  rintro e w1 ⟨g, rfl, hc1, hb1⟩
  have HC1 := Lib.hid hc1
  have HT1 := Lib.hid (HT0.out.below hb1)
  have HB1 := Lib.hid (Below.then HB0.out hb1)
  have hgw : w.heap.size < g := Nat.lt_of_lt_of_le hg0 hc1.le
  have hw1 : w.heap.size ≤ w1.heap.size := HB1.out.size
  clear hc1 hb1
  go_wp2_with fail
  refine (l12Draw_any w0.heap.size w1 g v HC1.out).mono ?_
  rintro e w2 ⟨C, rs, sl, rfl, h2, h6, hl, hr, ho, hg⟩
  obtain ⟨Y, cy, rfl, -, -, -⟩ := ho.form
  have HR := Lib.hid hr
  have T2 := HT1.out.kept hg (by simp; omega)
  have hlt : w.heap.size < w1.heap.size := HT1.out.gt
  have t0 := T2.1.1
  have t1 := T2.1.2
  have f0 := T2.2 0
  have f1 := T2.2 1
  have HO := Lib.hid (((ho.kept (setCell_grown _ ⟨w.heap.size, 0, none⟩ (.int .i64 C)) (own_ne (fun k hk => (ho.lt k hk).1) (by simp; omega))).kept (setCell_grown _ ⟨w.heap.size, 1, none⟩ (.slice Y rs.length cy)) (own_ne (fun k hk => (ho.lt k hk).1) (by simp; omega))))
  have HB2 := Lib.hid (HB1.out.grown hg HB1.out.size (fun k hk => by injection hk with hk; omega))
  have HB := Lib.hid ((HB2.out.setCell (p := ⟨w.heap.size, 0, none⟩) (Nat.le_refl _) (.int .i64 C)).setCell (p := ⟨w.heap.size, 1, none⟩) (Nat.le_refl _) (.slice Y rs.length cy))
  have R0 : Hid (((w2.setCell ⟨w.heap.size, 0, none⟩ (.int .i64 C)).setCell ⟨w.heap.size, 1, none⟩ (.slice Y rs.length cy)).cell? ⟨w.heap.size, 0, none⟩ = some (.int .i64 C)) := (World.cell?_setCell_other _ _ _ _ (by simp)).trans (World.cell?_setCell_same _ _ _ t0)
  have R1 : Hid (((w2.setCell ⟨w.heap.size, 0, none⟩ (.int .i64 C)).setCell ⟨w.heap.size, 1, none⟩ (.slice Y rs.length cy)).cell? ⟨w.heap.size, 1, none⟩ = some (.slice Y rs.length cy)) := World.cell?_setCell_same _ _ _ ((World.cell?_setCell_other _ _ _ _ (by simp)).trans t1)
  clear ho hg T2 hr
  go_wp2
  have r0 := R0.out
  have r1 := R1.out
  refine bodyPost_ret (v := .agg #[.int .i64 C, .slice Y rs.length cy]) (by simp only [results, Try.results20]; simp [go_sem, r0, r1]) rfl ⟨C, rs, _, rfl, h2, h6, hl, HR.out, HO.out.mono (by omega), HB.out⟩
end Go.Proofs.Ytdmneccfbfdloaa
