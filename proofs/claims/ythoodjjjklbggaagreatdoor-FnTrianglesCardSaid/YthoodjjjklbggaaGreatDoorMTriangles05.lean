/- Texts put together: Flip. -/
import Derived.Test.YthoodjjjklbggaaGreatDoorMTriangles02
import Derived.Test.YthoodjjjklbggaaGreatDoorMTriangles03
import Derived.Test.YthoodjjjklbggaaGreatDoorMTriangles04
import Derived.Deep.RegionHeld3
import Derived.Deep.RegionLawGrows
namespace Go.Proofs.YthoodjjjklbggaaGreatDoor
open Go.RowKit Go.Sort
set_option maxRecDepth 100000

/-- one digit turned over -/
def xorI (x : Int) (b : Nat) : Int := bits BinOp.xor IntKind.i64 x (wrap64 (2 ^ b))
def flipL (xs : List Int) (a b : Nat) : List Int := (xs.set a (xorI (xs.getD a 0) b)).set b (xorI ((xs.set a (xorI (xs.getD a 0) b)).getD b 0) a)
theorem flipL_len (xs : List Int) (a b : Nat) : (flipL xs a b).length = xs.length := by simp [flipL]
set_option maxHeartbeats 2000000 in
theorem flipped_any (s : Int) (sl : Value) (xs : List Int) (a b : Nat) (w : World) (h : Rd w sl xs) (hl : xs.length ≤ 8) (ha : a < xs.length) (hb : b < xs.length) :
    Calls Tryz.prog 62 #[.agg #[.int .i64 s, sl], .int .i64 a, .int .i64 b] w fun e w' => ∃ sl', e = .returned (.agg #[.int .i64 s, sl']) ∧ Own w' w.heap.size sl' (flipL xs a b) ∧ Below w.heap.size w w' := by
  have HR := Lib.hid h
  obtain ⟨A, c, rfl, -, -, -⟩ := h
  go_enter Tryz.func62, Tryz.ntmps62
  go_wp2_with fail
  have b0 := (below_alloc1 w (.cells #[.int .i64 s, .slice A xs.length c] 25)).alloc (by simp) (.cells #[.int .i64 0, .slice none 0 0] 25)
  have x0 := (TBox.new w s (.slice A xs.length c) 25).below (below_alloc1 _ (.cells #[.int .i64 0, .slice none 0 0] 25))
  have t0 := BoxF.new (w.alloc (.cells #[.int .i64 s, .slice A xs.length c] 25)) 0 (.slice none 0 0) 25
  simp only [World.size_alloc] at t0
  generalize (w.alloc (.cells #[.int .i64 s, .slice A xs.length c] 25)).alloc (.cells #[.int .i64 0, .slice none 0 0] 25) = w0 at *
  have HX0 := Lib.hid x0
  have HB0 := Lib.hid b0
  have HT0 := Lib.hid t0
  clear x0 b0 t0
  have y0_0 := HX0.out.1
  have y1_0 := HX0.out.2
  have hg0 := HX0.out.1
  have hgt0 : w.heap.size + 1 < w0.heap.size := HT0.out.gt
  have HDX := Lib.hid (show TBox w0.drew w.heap.size s (.slice A xs.length c) from HX0.out)
  have HDT := Lib.hid (show BoxF w0.drew (w.heap.size + 1) 0 (.slice none 0 0) from HT0.out)
  have HDB := Lib.hid (show Below w.heap.size w w0.drew from ⟨HB0.out.os, HB0.out.tape, HB0.out.output, HB0.out.size, HB0.out.block⟩)
  have bA := below_alloc1 w0 (.cells #[.int .i64 0, .slice none 0 0] 25)
  have hXA := HX0.out.below bA
  have hTA := HT0.out.below bA
  have HAX := Lib.hid (show TBox (w0.alloc (.cells #[.int .i64 0, .slice none 0 0] 25)).drew w.heap.size s (.slice A xs.length c) from hXA)
  have HAT := Lib.hid (show BoxF (w0.alloc (.cells #[.int .i64 0, .slice none 0 0] 25)).drew (w.heap.size + 1) 0 (.slice none 0 0) from hTA)
  have HAU := Lib.hid (show BoxF (w0.alloc (.cells #[.int .i64 0, .slice none 0 0] 25)).drew w0.heap.size 0 (.slice none 0 0) from BoxF.new w0 0 (.slice none 0 0) 25)
  have HAB := Lib.hid (show Below w.heap.size w (w0.alloc (.cells #[.int .i64 0, .slice none 0 0] 25)).drew from (let q := Below.then HB0.out bA; ⟨q.os, q.tape, q.output, q.size, q.block⟩))
  have ya0 := hXA.1
  have ya1 := hXA.2
  clear bA hXA hTA hg0
  go_region_held3 (fun W => W.cell? ⟨w.heap.size, 0, none⟩ = some (.int .i64 s) ∧ W.cell? ⟨w.heap.size, 1, none⟩ = some (.slice A xs.length c))
    (first | exact ⟨y0_0, y1_0⟩ | exact ⟨ya0, ya1⟩ | exact ⟨y0_1, y1_1⟩ | exact ⟨yb0, yb1⟩ | exact ⟨yc0, yc1⟩)
    (first
      | (go_at_call 43; refine (clone_any (.slice A xs.length c) xs w0.drew (HR.out.below HDB.out) (by omega) (by omega)).mono ?_; rintro e w1 ⟨v1, rfl, ho1, hb1⟩; obtain ⟨Y, cy, rfl, hcy, hly, hgy⟩ := ho1.form; have HX1 := Lib.hid (HDX.out.below hb1); have HT1 := Lib.hid (HDT.out.below hb1); have HB1 := Lib.hid (Below.then HDB.out hb1); have y0_1 := HX1.out.1; have y1_1 := HX1.out.2; have HO1 := Lib.hid (show Own w1 w0.heap.size _ _ from ho1); have hXb := HX1.out.below (below_alloc1 w1 (.cells #[.int .i64 0, .slice none 0 0] 25)); have yb0 := hXb.1; have yb1 := hXb.2; have hXc := HX1.out.below (below_alloc1 w1 (.cells #[.int .i64 s, .slice Y xs.length cy] 25)); have yc0 := hXc.1; have yc1 := hXc.2; have WAY : Hid (0 = 0) := rfl; have hs1 := hb1.size; clear hXb hXc ho1 hb1)
      | (go_at_call 43; refine (clone_any (.slice A xs.length c) xs (w0.alloc (.cells #[.int .i64 0, .slice none 0 0] 25)).drew (HR.out.below HAB.out) (by omega) (by omega)).mono ?_; rintro e w1 ⟨v1, rfl, ho1, hb1⟩; obtain ⟨Y, cy, rfl, hcy, hly, hgy⟩ := ho1.form; have HX1 := Lib.hid (HAX.out.below hb1); have HT1 := Lib.hid (HAT.out.below hb1); have HU1 := Lib.hid (HAU.out.below hb1); have HB1 := Lib.hid (Below.then HAB.out hb1); have y0_1 := HX1.out.1; have y1_1 := HX1.out.2; have u0 := HU1.out.1.1; have u1 := HU1.out.1.2; have uf0 := HU1.out.2 0; have uf1 := HU1.out.2 1; have HO1 := Lib.hid (show Own w1 (w0.alloc (.cells #[.int .i64 0, .slice none 0 0] 25)).heap.size _ _ from ho1); have hs1 := hb1.size; have hXc := (HX1.out.kept (setCell_grown _ ⟨w0.heap.size, 0, none⟩ (.int .i64 s)) (by simp; omega)).kept (setCell_grown _ ⟨w0.heap.size, 1, none⟩ (.slice Y xs.length cy)) (by simp; omega); have yc0 := hXc.1; have yc1 := hXc.2; clear hXc ho1 hb1))
  all_goals
    obtain ⟨gy, rfl, hgy1, hgy2⟩ := hgy (by omega)
    clear y0_0 y1_0 y0_1 y1_1 yc0 yc1 ya0 ya1
    first
      | (clear yb0 yb1
         have hs2 : w0.heap.size ≤ w1.heap.size := hs1
         have hs3 : w0.heap.size ≤ gy := hgy1
         have HU := Lib.hid (BoxF.new w1 s (.slice (some ⟨gy, 0, none⟩) xs.length cy) 25)
         have b2 := below_alloc1 w1 (.cells #[.int .i64 s, .slice (some ⟨gy, 0, none⟩) xs.length cy] 25)
         have HT := Lib.hid (HT1.out.below b2)
         have HO := Lib.hid (HO1.out.below b2)
         have HB := Lib.hid (Below.then HB1.out b2)
         have hgu : w.heap.size + 1 < w1.heap.size ∧ w1.heap.size ≠ gy := by omega
         clear b2 HO1 HT1 HB1 HX1
         generalize w1.alloc (.cells #[.int .i64 s, .slice (some ⟨gy, 0, none⟩) xs.length cy] 25) = W at *
         generalize w1.heap.size = gu at *)
      | (have hs2 : w0.heap.size + 1 ≤ gy := by simpa using hgy1
         have HU := Lib.hid (HU1.out.set01 s (.slice (some ⟨gy, 0, none⟩) xs.length cy))
         have HT := Lib.hid ((HT1.out.kept (setCell_grown _ ⟨w0.heap.size, 0, none⟩ (.int .i64 s)) (by simp; omega)).kept (setCell_grown _ ⟨w0.heap.size, 1, none⟩ (.slice (some ⟨gy, 0, none⟩) xs.length cy)) (by simp; omega))
         have HO := Lib.hid (((HO1.out.mono (show w0.heap.size ≤ _ by simp)).kept (setCell_grown _ ⟨w0.heap.size, 0, none⟩ (.int .i64 s)) (by right; simp [Value.ownBlock]; omega)).kept (setCell_grown _ ⟨w0.heap.size, 1, none⟩ (.slice (some ⟨gy, 0, none⟩) xs.length cy)) (by right; simp [Value.ownBlock]; omega))
         have HB := Lib.hid ((HB1.out.setCell (p := ⟨w0.heap.size, 0, none⟩) (show w.heap.size ≤ w0.heap.size by omega) (.int .i64 s)).setCell (p := ⟨w0.heap.size, 1, none⟩) (show w.heap.size ≤ w0.heap.size by omega) (.slice (some ⟨gy, 0, none⟩) xs.length cy))
         have hgu : w.heap.size + 1 < w0.heap.size ∧ w0.heap.size ≠ gy := by omega
         clear u0 u1 uf0 uf1 HO1 HT1 HB1 HX1 HU1
         generalize ((w1.setCell ⟨w0.heap.size, 0, none⟩ (.int .i64 s)).setCell ⟨w0.heap.size, 1, none⟩ (.slice (some ⟨gy, 0, none⟩) xs.length cy)) = W at *
         obtain ⟨gu, hgue⟩ : ∃ gu, gu = w0.heap.size := ⟨_, rfl⟩
         rw [← hgue] at HU hgu ⊢
         clear hgue)
    have hgy3 : w.heap.size + 1 < gy := by omega
    clear hgy1 hgy2
    have za := (HO.out.at1 rfl (by omega)).1 a ha
    obtain ⟨x, hx⟩ : ∃ x, x = xs.getD a 0 := ⟨_, rfl⟩
    obtain ⟨x1, hx1⟩ : ∃ x1, x1 = bits BinOp.xor IntKind.i64 x (wrap64 (2 ^ b)) := ⟨_, rfl⟩
    have HE1 : Hid (x1 = xorI (xs.getD a 0) b) := by unfold Hid xorI; rw [hx1, hx]
    rw [← hx] at za
    have hxor := hx1.symm
    have c1 := cell_regrown HU.out.1.2
    have c2 := cell_regrown za
    clear za hx1 hx
    go_wp2_with fail
    refine wp_region_below_tail 9 (by kernel_rfl) (by kernel_rfl) ?_
    simp only [List.take_succ_cons, List.take_zero, List.drop_succ_cons, List.drop_zero]
    repeat (go_big_quiet_step (first | (with_reducible fail)))
    refine wpQuiet_nil ?_
    intro wq hbq0
    have hbq := Lib.hid hbq0
    clear hbq0
    clear c1 c2 hxor
    have O2 := HO.out.below hbq.out
    obtain ⟨hx2, hf2⟩ := O2.at1 rfl (by omega)
    have za := hx2 a ha
    have fa := hf2 a
    have O3 := (O2.set_ rfl a x1).1
    have HU3 := Lib.hid ((HU.out.below hbq.out).kept (setCell_grown _ ⟨gy, a, none⟩ (.int .i64 x1)) (by simp; omega))
    have HT3 := Lib.hid ((HT.out.below hbq.out).kept (setCell_grown _ ⟨gy, a, none⟩ (.int .i64 x1)) (by simp; omega))
    have HB3 := Lib.hid ((Below.then HB.out hbq.out).setCell (p := ⟨gy, a, none⟩) (show w.heap.size ≤ gy by omega) (.int .i64 x1))
    have HO3 := Lib.hid O3
    have hl1 : (xs.set a x1).length = xs.length := by simp
    clear hx2 hf2 O2 O3 HO HU HT HB
    generalize hL : xs.set a x1 = L at *
    have HL := Lib.hid hL
    clear hL
    generalize hn : xs.length = n at *
    have HN := Lib.hid hn
    go_wp2_with fail
    clear za fa
    have zb := (HO3.out.at1 hl1 (by omega)).1 b hb
    obtain ⟨y, hy⟩ : ∃ y, y = L.getD b 0 := ⟨_, rfl⟩
    obtain ⟨y1, hy1⟩ : ∃ y1, y1 = bits BinOp.xor IntKind.i64 y (wrap64 (2 ^ a)) := ⟨_, rfl⟩
    have HE2 : Hid (y1 = xorI (L.getD b 0) a) := by unfold Hid xorI; rw [hy1, hy]
    rw [← hy] at zb
    have hxor := hy1.symm
    have c1 := cell_regrown HU3.out.1.2
    have c2 := cell_regrown zb
    clear zb hy1 hy
    refine wp_region_below_tail 9 (by kernel_rfl) (by kernel_rfl) ?_
    simp only [List.take_succ_cons, List.take_zero, List.drop_succ_cons, List.drop_zero]
    repeat (go_big_quiet_step (first | (with_reducible fail)))
    refine wpQuiet_nil ?_
    intro wq hbq0
    have hbq := Lib.hid hbq0
    clear hbq0
    clear c1 c2 hxor
    have O2 := HO3.out.below hbq.out
    obtain ⟨hx2, hf2⟩ := O2.at1 hl1 (by omega)
    have zb := hx2 b hb
    have fb := hf2 b
    have O5 := (O2.set_ hl1 b y1).1
    have hl5 : (L.set b y1).length = n := by simp [hl1]
    have HE : Hid (L.set b y1 = flipL xs a b) := by unfold Hid flipL; rw [← HE1.out, HL.out, ← HE2.out]
    have HU5 := (HU3.out.below hbq.out).kept (setCell_grown _ ⟨gy, b, none⟩ (.int .i64 y1)) (by simp; omega)
    have HT5 := (HT3.out.below hbq.out).kept (setCell_grown _ ⟨gy, b, none⟩ (.int .i64 y1)) (by simp; omega)
    have HB5 := Lib.hid ((Below.then HB3.out hbq.out).setCell (p := ⟨gy, b, none⟩) (show w.heap.size ≤ gy by omega) (.int .i64 y1))
    have HO5 := Lib.hid O5
    have HU3q := HU3.out.below hbq.out
    have HT3q := HT3.out.below hbq.out
    clear hx2 hf2 O2 O5 HO3 HU3 HT3 HB3 hbq
    have HTq := HT3q
    have u0 := HU3q.1.1
    have u1 := HU3q.1.2
    have v0 := HT3q.1.1
    have v1 := HT3q.1.2
    have f0 := HT3q.2 0
    have f1 := HT3q.2 1
    have V0 := Lib.hid HT5.1.1
    have V1 := Lib.hid HT5.1.2
    have hgu2 := hgu.2
    have hgu3 : gy ≠ gu := fun e => hgu2 e.symm
    have hgu4 : gy ≠ w.heap.size + 1 := by omega
    clear HTq HU5 HT5
    have HOx := Lib.hid ((HO5.out.kept (setCell_grown _ ⟨w.heap.size + 1, 0, none⟩ (.int .i64 s)) (by right; simp [Value.ownBlock]; omega)).kept (setCell_grown _ ⟨w.heap.size + 1, 1, none⟩ (.slice (some ⟨gy, 0, none⟩) n cy)) (by right; simp [Value.ownBlock]; omega))
    have HBx := Lib.hid ((HB5.out.setCell (p := ⟨w.heap.size + 1, 0, none⟩) (by simp) (.int .i64 s)).setCell (p := ⟨w.heap.size + 1, 1, none⟩) (by simp) (.slice (some ⟨gy, 0, none⟩) n cy))
    have R0 : Hid ((((wq.setCell ⟨gy, b, none⟩ (.int .i64 y1)).setCell ⟨w.heap.size + 1, 0, none⟩ (.int .i64 s)).setCell ⟨w.heap.size + 1, 1, none⟩ (.slice (some ⟨gy, 0, none⟩) n cy)).cell? ⟨w.heap.size + 1, 0, none⟩ = some (.int .i64 s)) := (World.cell?_setCell_other _ _ _ _ (by simp)).trans (World.cell?_setCell_same _ _ _ V0.out)
    have R1 : Hid ((((wq.setCell ⟨gy, b, none⟩ (.int .i64 y1)).setCell ⟨w.heap.size + 1, 0, none⟩ (.int .i64 s)).setCell ⟨w.heap.size + 1, 1, none⟩ (.slice (some ⟨gy, 0, none⟩) n cy)).cell? ⟨w.heap.size + 1, 1, none⟩ = some (.slice (some ⟨gy, 0, none⟩) n cy)) := World.cell?_setCell_same _ _ _ ((World.cell?_setCell_other _ _ _ _ (by simp)).trans V1.out)
    clear HU3q HT3q
    go_wp2
    have r0 := R0.out
    have r1 := R1.out
    refine bodyPost_ret (v := .agg #[.int .i64 s, .slice (some ⟨gy, 0, none⟩) n cy]) (by simp only [results, Tryz.results62]; simp [go_sem, r0, r1]) rfl ⟨_, rfl, ?_, HBx.out⟩
    rw [← HE.out]
    exact HOx.out.mono (by omega)
end Go.Proofs.YthoodjjjklbggaaGreatDoor

