/- Texts put together: Ren2, Way, Perm. -/
import Derived.Test.YthoodjjjklbggaaDoorMRotational04
import Derived.Test.YthoodjjjklbggaaDoorMRotational03
import Derived.Test.YthoodjjjklbggaaDoorMRotational01
import Derived.Test.YthoodjjjklbggaaDoorMRotational02
namespace Go.Proofs.YthoodjjjklbggaaDoor
open Go.RowKit Go.Sort
set_option maxRecDepth 100000
set_option maxHeartbeats 4000000 in
theorem l02Rename_any (s : Int) (sl : Value) (xs ns : List Int) (nv : Value) (w : World) (h : Rd w sl xs) (hp : tourP s xs) (h2 : Rd w nv ns) (hP : PermP xs.length ns) :
    Calls Tryd.prog 69 #[.agg #[.int .i64 s, sl], nv] w fun e w' => ∃ sl', e = .returned (.agg #[.int .i64 s, sl']) ∧ Own w' w.heap.size sl' (rnL xs ns) ∧ rnF xs ns xs.length (rnL xs ns) xs.length 0 ∧ Below w.heap.size w w' := by
  obtain ⟨i0, hi, hz0, hz1, hz2⟩ := info_parts i64_info
  obtain ⟨g, off, c, rfl, hm, hg, hx⟩ := tour_cells h hp
  unfold maxLen at hm
  have hs := hp.1
  have hsl := hp.2.1
  have HX := Lib.hid hx
  have HW := Lib.hid (fun j hj => (tour_wins hp (a := j) hj).2.2)
  obtain ⟨B, d, rfl, hdl, hdm, hdc⟩ := h2
  rw [hP.1] at hdl hdc ⊢
  obtain ⟨gn, on, rfl, hgn, hnx⟩ := hdc (by omega)
  unfold maxLen at hdm
  have HNX := Lib.hid hnx
  clear hp h hx hdc hnx
  generalize hn : xs.length = n at *
  obtain rfl : s = n := by omega
  have HN := Lib.hid hn
  have HPP := Lib.hid hP
  clear hn hP
  go_enter Tryd.func69, Tryd.ntmps69
  go_wp2_with fail
  have b0 := (below_alloc1 w (.cells #[.int .i64 n, .slice (some ⟨g, off, none⟩) n c] 25)).alloc (by simp) (.cells #[.int .i64 0, .slice none 0 0] 25)
  have x0 := (TBox.new w n (.slice (some ⟨g, off, none⟩) n c) 25).below (below_alloc1 _ (.cells #[.int .i64 0, .slice none 0 0] 25))
  have t0 := BoxF.new (w.alloc (.cells #[.int .i64 n, .slice (some ⟨g, off, none⟩) n c] 25)) 0 (.slice none 0 0) 25
  simp only [World.size_alloc] at t0
  generalize (w.alloc (.cells #[.int .i64 n, .slice (some ⟨g, off, none⟩) n c] 25)).alloc (.cells #[.int .i64 0, .slice none 0 0] 25) = w0 at *
  have HX0 := Lib.hid x0
  have HB0 := Lib.hid b0
  have HT0 := Lib.hid t0
  clear x0 b0 t0
  have y0_0 := HX0.out.1
  have y1_0 := HX0.out.2
  have hgt0 : w.heap.size + 1 < w0.heap.size := HT0.out.gt
  have bA := below_alloc1 w0 (.cells #[.int .i64 0, .slice none 0 0] 25)
  have hXA := HX0.out.below bA
  have hTA := HT0.out.below bA
  have ya0 := hXA.1
  have ya1 := hXA.2
  have hUA := BoxF.new w0 0 (.slice none 0 0) 25
  have BA : Below w.heap.size w (w0.alloc (.cells #[.int .i64 0, .slice none 0 0] 25)).drew := (let q := Below.then HB0.out bA; ⟨q.os, q.tape, q.output, q.size, q.block⟩)
  have B0d : Below w.heap.size w w0.drew := ⟨HB0.out.os, HB0.out.tape, HB0.out.output, HB0.out.size, HB0.out.block⟩
  -- the row made first, or the box laid first
  obtain ⟨W1, hrun1, r1, gr1⟩ := run_make_full (P := Tryd.prog) w0.drew w0.heap.size 23 3 i0 (.int .i64 0) 1 Tryd.underlying23 hi hz0 hz1 .i64 .i64 n (by rw [hz2]; omega) (by unfold maxLen; omega) (Nat.le_refl _)
  obtain ⟨W2, hrun2, r2, gr2⟩ := run_make_full (P := Tryd.prog) (w0.alloc (.cells #[.int .i64 0, .slice none 0 0] 25)).drew w0.heap.size 23 3 i0 (.int .i64 0) 1 Tryd.underlying23 hi hz0 hz1 .i64 .i64 n (by rw [hz2]; omega) (by unfold maxLen; omega) (show w0.heap.size ≤ (w0.alloc (.cells #[.int .i64 0, .slice none 0 0] 25)).heap.size by simp)
  have X1 := (show TBox w0.drew w.heap.size n (.slice (some ⟨g, off, none⟩) n c) from HX0.out).kept gr1 (by simp)
  have T1 := Lib.hid ((show BoxF w0.drew (w.heap.size + 1) 0 (.slice none 0 0) from HT0.out).kept gr1 (by simp))
  have B1 := Lib.hid (Below.grown B0d gr1 B0d.size (by simp))
  have X2 := (show TBox (w0.alloc (.cells #[.int .i64 0, .slice none 0 0] 25)).drew w.heap.size n (.slice (some ⟨g, off, none⟩) n c) from hXA).kept gr2 (by simp)
  have T2 := Lib.hid ((show BoxF (w0.alloc (.cells #[.int .i64 0, .slice none 0 0] 25)).drew (w.heap.size + 1) 0 (.slice none 0 0) from hTA).kept gr2 (by simp))
  have U2 := (show BoxF (w0.alloc (.cells #[.int .i64 0, .slice none 0 0] 25)).drew w0.heap.size 0 (.slice none 0 0) from hUA).kept gr2 (by simp)
  have B2 := Lib.hid (Below.grown BA gr2 BA.size (by simp))
  rw [ints_made'] at r1 r2
  have O1 : Hid (Own W1 w0.heap.size (.slice (some ⟨w0.heap.size, 0, none⟩) n n) (List.replicate n 0)) := by unfold Hid Own; rw [List.length_replicate]; exact r1
  have O2' : Own W2 w0.heap.size (.slice (some ⟨(w0.alloc (.cells #[.int .i64 0, .slice none 0 0] 25)).heap.size, 0, none⟩) n n) (List.replicate n 0) := by unfold Own; rw [List.length_replicate]; exact r2
  simp only [World.size_alloc] at O2'
  have O2 := Lib.hid O2'
  have hu0 := U2.1.1
  have hu1 := U2.1.2
  have hf0 := U2.2 0
  have hf1 := U2.2 1
  have q10 := X1.1
  have q11 := X1.2
  have q20 := X2.1
  have q21 := X2.2
  have z1 := X1.below (below_alloc1 W1 (.cells #[.int .i64 0, .slice none 0 0] 25))
  have q30 := z1.1
  have q31 := z1.2
  have z2 := X1.below (below_alloc1 W1 (.cells #[.int .i64 n, .slice (some ⟨w0.heap.size, 0, none⟩) n n] 25))
  have q40 := z2.1
  have q41 := z2.2
  have z3 := (X2.kept (setCell_grown _ ⟨w0.heap.size, 0, none⟩ (.int .i64 n)) (by simp; omega)).kept (setCell_grown _ ⟨w0.heap.size, 1, none⟩ (.slice (some ⟨w0.heap.size + 1, 0, none⟩) n n)) (by simp; omega)
  have q50 := z3.1
  have q51 := z3.2
  have hs1 := gr1.size
  have Hs1 : w0.heap.size < W1.heap.size := (World.ownsRow.lt r1 w0.heap.size rfl).2
  clear O2' bA hXA hTA hUA BA B0d r1 r2 gr1 gr2 X1 X2 z1 z2 z3
  go_region_held3 (fun W => W.cell? ⟨w.heap.size, 0, none⟩ = some (.int .i64 n) ∧ W.cell? ⟨w.heap.size, 1, none⟩ = some (.slice (some ⟨g, off, none⟩) n c))
    (first | exact ⟨y0_0, y1_0⟩ | exact ⟨ya0, ya1⟩ | exact ⟨q10, q11⟩ | exact ⟨q20, q21⟩ | exact ⟨q30, q31⟩ | exact ⟨q40, q41⟩ | exact ⟨q50, q51⟩)
    (first
      | (fail))
  all_goals
    clear hrun1 hrun2 y0_0 y1_0 ya0 ya1 q10 q11 q20 q21
    first
      | (have hck : W1 = W1 := rfl
         have HU := Lib.hid (BoxF.new W1 n (.slice (some ⟨w0.heap.size, 0, none⟩) n n) 25)
         have b2 := below_alloc1 W1 (.cells #[.int .i64 n, .slice (some ⟨w0.heap.size, 0, none⟩) n n] 25)
         have HT := Lib.hid (T1.out.below b2)
         have HO := Lib.hid (O1.out.below b2)
         have HB := Lib.hid (Below.then B1.out b2)
         have HXW := Lib.hid (show TBox _ w.heap.size n (.slice (some ⟨g, off, none⟩) n c) from ⟨q40, q41⟩)
         have hgu : w.heap.size + 1 < W1.heap.size ∧ W1.heap.size ≠ w0.heap.size ∧ w.heap.size + 1 < w0.heap.size := by omega
         clear b2 O1 T1 B1 O2 T2 B2 q30 q31 q40 q41 q50 q51 hu0 hu1 hf0 hf1 U2 Hs1 hs1
         generalize hWW : W1.alloc (.cells #[.int .i64 n, .slice (some ⟨w0.heap.size, 0, none⟩) n n] 25) = W at HU HT HO HB HXW ⊢
         obtain ⟨gu, hgue⟩ : ∃ gu, gu = W1.heap.size := ⟨_, rfl⟩
         rw [← hgue] at HU hgu ⊢
         obtain ⟨gl, hgle⟩ : ∃ gl, gl = w0.heap.size := ⟨_, rfl⟩
         rw [← hgle] at HU HO hgu ⊢
         have hcheck : (Value.pointer (some ⟨gu, 0, none⟩)) = Value.pointer (some ⟨W1.heap.size, 0, none⟩) := by rw [hgue]
         clear hcheck hgle hgue hWW hck hgt0
         clear HX0 HT0 HB0
         skip)
      | (have HU := Lib.hid (U2.set01 n (.slice (some ⟨w0.heap.size + 1, 0, none⟩) n n))
         have HT := Lib.hid ((T2.out.kept (setCell_grown _ ⟨w0.heap.size, 0, none⟩ (.int .i64 n)) (by simp; omega)).kept (setCell_grown _ ⟨w0.heap.size, 1, none⟩ (.slice (some ⟨w0.heap.size + 1, 0, none⟩) n n)) (by simp; omega))
         have HO := Lib.hid ((O2.out.kept (setCell_grown _ ⟨w0.heap.size, 0, none⟩ (.int .i64 n)) (by right; simp [Value.ownBlock])).kept (setCell_grown _ ⟨w0.heap.size, 1, none⟩ (.slice (some ⟨w0.heap.size + 1, 0, none⟩) n n)) (by right; simp [Value.ownBlock]))
         have HB := Lib.hid ((B2.out.setCell (p := ⟨w0.heap.size, 0, none⟩) (show w.heap.size ≤ w0.heap.size by omega) (.int .i64 n)).setCell (p := ⟨w0.heap.size, 1, none⟩) (show w.heap.size ≤ w0.heap.size by omega) (.slice (some ⟨w0.heap.size + 1, 0, none⟩) n n))
         have HXW := Lib.hid (show TBox _ w.heap.size n (.slice (some ⟨g, off, none⟩) n c) from ⟨q50, q51⟩)
         have hgu : w.heap.size + 1 < w0.heap.size ∧ w0.heap.size ≠ w0.heap.size + 1 ∧ w.heap.size + 1 < w0.heap.size + 1 := by omega
         clear O1 T1 B1 O2 T2 B2 q30 q31 q40 q41 q50 q51 hu0 hu1 hf0 hf1 U2 Hs1 hs1
         generalize hWW : ((W2.setCell ⟨w0.heap.size, 0, none⟩ (.int .i64 n)).setCell ⟨w0.heap.size, 1, none⟩ (.slice (some ⟨w0.heap.size + 1, 0, none⟩) n n)) = W at HU HT HO HB HXW ⊢
         obtain ⟨gl, hgle⟩ : ∃ gl, gl = w0.heap.size + 1 := ⟨_, rfl⟩
         rw [← hgle] at HU HO hgu ⊢
         obtain ⟨gu, hgue⟩ : ∃ gu, gu = w0.heap.size := ⟨_, rfl⟩
         rw [← hgue] at HU hgu ⊢
         have HO := Lib.hid (HO.out.mono (show w.heap.size ≤ _ by omega))
         clear hgle hgue hWW hgt0
         clear HX0 HT0 HB0
         skip)
    obtain ⟨hgu1, hgu2, hgu3⟩ := hgu
    have HO := Lib.hid (show Own W w.heap.size (.slice (some ⟨gl, 0, none⟩) n n) (List.replicate n 0) from HO.out.mono (by first | exact Nat.le_refl _ | omega))
    have yw0 := HXW.out.1
    have yw1 := HXW.out.2
    go_wp2
    go_loopw [18] (fun i wr => ∃ (a : Nat) (N : List Int), a ≤ n ∧ i = .int .i64 a ∧ Own wr w.heap.size (.slice (some ⟨gl, 0, none⟩) n n) N ∧ Hid (rnF xs ns n N a 0) ∧ BoxF wr gu n (.slice (some ⟨gl, 0, none⟩) n n) ∧ BoxF wr (w.heap.size + 1) 0 (.slice none 0 0) ∧ TBox wr w.heap.size n (.slice (some ⟨g, off, none⟩) n c) ∧ Below w.heap.size w wr) (fun i _ => n - (intOf i).toNat)
    case atStart => exact ⟨0, _, by omega, rfl, HO.out, rnF_start, HU.out, HT.out, HXW.out, HB.out⟩
    case round =>
      obtain ⟨wa, rfl⟩ : ∃ x, x = wr := ⟨_, rfl⟩
      obtain ⟨a, N, ha, rfl, hown, HP, hu, ht, hx, hb⟩ := hrel
      have HOa := Lib.hid hown
      have HUa := Lib.hid hu
      have HTa := Lib.hid ht
      have HXa := Lib.hid hx
      have HBa := Lib.hid hb
      have y0 := hx.1
      have y1 := hx.2
      clear hown hu ht hx hb HO HU HT HXW HB yw0 yw1
      by_cases hlta : a < n
      · have hxa := (HBa.out.cell (p := ⟨g, off + a, none⟩) hg).trans (HX.out a hlta)
        have h256 := HW.out a hlta
        go_wp2
        go_loopw [26] (fun i wr => ∃ (b : Nat) (N : List Int), b ≤ n ∧ i = .int .i64 b ∧ Own wr w.heap.size (.slice (some ⟨gl, 0, none⟩) n n) N ∧ Hid (rnF xs ns n N a b) ∧ BoxF wr gu n (.slice (some ⟨gl, 0, none⟩) n n) ∧ BoxF wr (w.heap.size + 1) 0 (.slice none 0 0) ∧ TBox wr w.heap.size n (.slice (some ⟨g, off, none⟩) n c) ∧ Below w.heap.size w wr) (fun i _ => n - (intOf i).toNat)
        case atStart => exact ⟨0, N, by omega, rfl, HOa.out, HP, HUa.out, HTa.out, HXa.out, HBa.out⟩
        case round =>
          obtain ⟨b, M, hbn, rfl, hown, HP2, hu, ht, hx, hb⟩ := hrel
          have HO := Lib.hid hown
          have HU := Lib.hid hu
          have HT := Lib.hid ht
          have HX2 := Lib.hid hx
          have HB := Lib.hid hb
          clear hown hu ht hx hb y0 y1 hxa
          by_cases hltb : b < n
          · have hbit := bit_test (winsN xs a) b
            rcases hq : (winsN xs a).testBit b with _ | _
            · rw [hq] at hbit
              have HR := Lib.hid (rnF_no HP2.out hq)
              go_wp2
              go_roundw
              case rel => exact ⟨b + 1, M, by omega, by go_num, HO.out, HR.out, HU.out, HT.out, HX2.out, HB.out⟩
              case measure => simp [intOf]; omega
            · rw [hq] at hbit
              obtain ⟨na, va⟩ := nm_val HPP.out hlta
              obtain ⟨nb, vb⟩ := nm_val HPP.out hltb
              obtain ⟨S, hS, -⟩ := HP2.out.2.1 _ va
              obtain ⟨hSn, hSb, hYES⟩ := rnF_yes HPP.out (by omega) HP2.out hlta hltb hS hq
              have HY := Lib.hid hYES
              have hp8 := pow_le (n := n) (by omega)
              have cna := (HB.out.cell (p := ⟨gn, on + a, none⟩) hgn).trans (HNX.out a hlta)
              have cnb := (HB.out.cell (p := ⟨gn, on + b, none⟩) hgn).trans (HNX.out b hltb)
              rw [na] at cna
              rw [nb] at cnb
              have hMl := HP2.out.1
              have za := (HO.out.at1 hMl (by omega)).1 _ va
              rw [hS] at za
              have hao := add_or (S := S) (a := nmN ns b) (by omega) (by omega) hSb
              have hor := add_shl S (nmN ns b) (by omega) (by omega)
              have hY2 := HY.out
              rw [← hao] at hY2
              have HADD := Lib.hid hor
              clear hao
              have HS := Lib.hid hS
              clear hYES hS hSb na nb
              generalize hA : nmN ns a = A at *
              generalize hBB : nmN ns b = B' at *
              have HA := Lib.hid hA
              have HBB := Lib.hid hBB
              clear hA hBB
              generalize hX : S + 2 ^ B' = X at *
              have HXX := Lib.hid hX
              clear hX
              go_wp2_with fail
              have c1 := cell_regrown HU.out.1.2
              have c2 := cell_regrown za
              have c3 := cell_regrown cna
              have c4 := cell_regrown cnb
              clear za cna cnb hbit
              refine wp_region_below_tail 21 (by kernel_rfl) (by kernel_rfl) ?_
              simp only [List.take_succ_cons, List.take_zero, List.drop_succ_cons, List.drop_zero]
              repeat (go_big_quiet_step (first | (with_reducible fail)))
              refine wpQuiet_nil ?_
              intro wq hbq0
              have hbq := Lib.hid hbq0
              clear hbq0
              clear c1 c2 c3 c4 hor
              have O2 := HO.out.below hbq.out
              obtain ⟨hx2, hf2⟩ := O2.at1 hMl (by omega)
              have za := hx2 A va
              have fa := hf2 A
              have HO3 := Lib.hid (O2.set_ hMl A (X : Int)).1
              have HU3 := Lib.hid ((HU.out.below hbq.out).kept (setCell_grown _ ⟨gl, A, none⟩ (.int .i64 X)) (by simp; omega))
              have HT3 := Lib.hid ((HT.out.below hbq.out).kept (setCell_grown _ ⟨gl, A, none⟩ (.int .i64 X)) (by simp; omega))
              have HX3 := Lib.hid ((HX2.out.below hbq.out).kept (setCell_grown _ ⟨gl, A, none⟩ (.int .i64 X)) (by simp; omega))
              have HB3 := Lib.hid ((Below.then HB.out hbq.out).setCell (p := ⟨gl, A, none⟩) (show w.heap.size ≤ gl by omega) (.int .i64 X))
              clear hx2 hf2 O2 HO HU HT HX2 HB hbq
              go_wp2
              go_roundw
              case rel =>
                first | rw [HADD.out] | skip
                exact ⟨b + 1, M.set A X, by omega, by go_num, HO3.out, hY2, HU3.out, HT3.out, HX3.out, HB3.out⟩
              case measure => simp [intOf]; omega
          · obtain rfl : n = b := by omega
            have HR := Lib.hid (rnF_next HP2.out)
            go_wp2
            go_roundw
            case rel => exact ⟨a + 1, M, by omega, by go_num, HO.out, HR.out, HU.out, HT.out, HX2.out, HB.out⟩
            case measure => simp [intOf]; omega
      · obtain rfl : n = a := by omega
        have HE := Lib.hid (rnL_eq HN.out HPP.out HP.out)
        have u0 := HUa.out.1.1
        have u1 := HUa.out.1.2
        have v0 := HTa.out.1.1
        have v1 := HTa.out.1.2
        have f0 := HTa.out.2 0
        have f1 := HTa.out.2 1
        have hgu4 : gu ≠ w.heap.size + 1 := by omega
        have HOx := Lib.hid ((HOa.out.kept (setCell_grown _ ⟨w.heap.size + 1, 0, none⟩ (.int .i64 n)) (by right; simp [Value.ownBlock]; omega)).kept (setCell_grown _ ⟨w.heap.size + 1, 1, none⟩ (.slice (some ⟨gl, 0, none⟩) n n)) (by right; simp [Value.ownBlock]; omega))
        have HBx := Lib.hid ((HBa.out.setCell (p := ⟨w.heap.size + 1, 0, none⟩) (by simp) (.int .i64 n)).setCell (p := ⟨w.heap.size + 1, 1, none⟩) (by simp) (.slice (some ⟨gl, 0, none⟩) n n))
        have R0 : Hid (((wa.setCell ⟨w.heap.size + 1, 0, none⟩ (.int .i64 n)).setCell ⟨w.heap.size + 1, 1, none⟩ (.slice (some ⟨gl, 0, none⟩) n n)).cell? ⟨w.heap.size + 1, 0, none⟩ = some (.int .i64 n)) := (World.cell?_setCell_other _ _ _ _ (by simp)).trans (World.cell?_setCell_same _ _ _ v0)
        have R1 : Hid (((wa.setCell ⟨w.heap.size + 1, 0, none⟩ (.int .i64 n)).setCell ⟨w.heap.size + 1, 1, none⟩ (.slice (some ⟨gl, 0, none⟩) n n)).cell? ⟨w.heap.size + 1, 1, none⟩ = some (.slice (some ⟨gl, 0, none⟩) n n)) := World.cell?_setCell_same _ _ _ ((World.cell?_setCell_other _ _ _ _ (by simp)).trans v1)
        clear y0 y1
        go_wp2
        have r0 := R0.out
        have r1 := R1.out
        refine bodyPost_ret (v := .agg #[.int .i64 n, .slice (some ⟨gl, 0, none⟩) n n]) (by simp only [results, Tryd.results69]; simp [go_sem, r0, r1]) rfl ⟨_, rfl, ?_, ?_, HBx.out⟩
        · rw [← HE.out]; exact HOx.out
        · rw [← HE.out]; exact HP.out
end Go.Proofs.YthoodjjjklbggaaDoor

namespace Go.Proofs.YthoodjjjklbggaaDoor
open Go.RowKit Go.Sort

/-- the i-th of a list goes on a way -/
def wayAt (s : Int) (xs ys : List Int) (i : Nat) : Bool := inB (ys.getD i 0) 0 (s - 1) && (!(containsI (ys.take i) (ys.getD i 0)) && (i == 0 || bitI (xs.getD (ys.getD (i - 1) 0).toNat 0) (ys.getD i 0).toNat))
def wayK (s : Int) (xs ys : List Int) (k : Nat) : Bool := (List.range k).all (wayAt s xs ys)
noncomputable def wayB (s : Int) (xs ys : List Int) : Bool := tourB s xs && wayK s xs ys ys.length
theorem wayK_true {s : Int} {xs ys : List Int} {k : Nat} : wayK s xs ys k = true ↔ ∀ i, i < k → wayAt s xs ys i = true := by simp [wayK]
theorem wayK_no {s : Int} {xs ys : List Int} {k n : Nat} (hk : k < n) (h : wayAt s xs ys k = false) : wayK s xs ys n = false := by
  rcases hq : wayK s xs ys n with _ | _
  · rfl
  · have := wayK_true.1 hq k hk; rw [h] at this; cases this
theorem Rd.take_ {w : World} {A : Option Addr} {n c : Nat} {ys : List Int} (h : Rd w (.slice A n c) ys) (k : Nat) (hk : k ≤ ys.length) : Rd w (.slice A k c) (ys.take k) := by
  obtain ⟨A', c', e, hl, hm, hc⟩ := h
  injection e with e1 e2 e3
  subst e1
  subst e3
  have hl2 : (ys.take k).length = k := by rw [List.length_take]; omega
  refine ⟨A, c, by rw [hl2], by omega, hm, fun h0 => ?_⟩
  obtain ⟨g, off, hA, hg, hx⟩ := hc (by omega)
  refine ⟨g, off, hA, hg, fun j hj => ?_⟩
  rw [hx j (by omega)]
  congr 2
  simp [List.getD_eq_getElem?_getD, show j < k by omega]
theorem wayAt_parts {s : Int} {xs ys : List Int} {i : Nat} (h : wayAt s xs ys i = true) : (0 ≤ ys.getD i 0 ∧ ys.getD i 0 ≤ s - 1) ∧ ys.getD i 0 ∉ ys.take i := by
  unfold wayAt containsI at h
  rw [Bool.and_eq_true, Bool.and_eq_true] at h
  exact ⟨inB_true.1 h.1, by simpa using h.2.1⟩
theorem way_nodup {s : Int} {xs ys : List Int} {k : Nat} (hk : k ≤ ys.length) (h : ∀ j, j < k → wayAt s xs ys j = true) : (ys.take k).Nodup ∧ ∀ y ∈ ys.take k, 0 ≤ y ∧ y ≤ s - 1 := by
  induction k with
  | zero => simp
  | succ k ih =>
    have ih := ih (by omega) (fun j hj => h j (by omega))
    have h1 := wayAt_parts (h k (by omega))
    have e : ys.getD k 0 = ys[k] := by simp [show k < ys.length by omega]
    rw [e] at h1
    rw [List.take_succ_eq_append_getElem (by omega)]
    refine ⟨List.nodup_append.2 ⟨ih.1, by simp, fun a ha b hb => ?_⟩, fun y hy => ?_⟩
    · rw [List.mem_singleton] at hb
      subst hb
      exact fun e => h1.2 (e ▸ ha)
    · rw [List.mem_append, List.mem_singleton] at hy
      rcases hy with hy | rfl
      · exact ih.2 y hy
      · exact h1.1
theorem wayB_len {s : Int} {xs ys : List Int} (h : wayB s xs ys = true) : (ys.length : Int) ≤ s := by
  unfold wayB at h
  rw [Bool.and_eq_true] at h
  have h0 := (tourB_true.1 h.1).1
  have hn := way_nodup (Nat.le_refl _) (wayK_true.1 h.2)
  rw [List.take_length] at hn
  obtain ⟨n, rfl⟩ := Int.eq_ofNat_of_zero_le (by omega : 0 ≤ s)
  have := nodup_le n ys hn.1 (fun y hy => by have := hn.2 y hy; omega)
  omega
theorem wayB_long {s : Int} {xs ys : List Int} (h : s < (ys.length : Int)) : wayB s xs ys = false := by
  rcases hq : wayB s xs ys with _ | _
  · rfl
  · have := wayB_len hq; omega
end Go.Proofs.YthoodjjjklbggaaDoor

namespace Go.Proofs.YthoodjjjklbggaaDoor
open Go.RowKit Go.Sort
set_option maxRecDepth 100000

def ordAt (ns : List Int) (i : Nat) : Bool := inB (ns.getD i 0) 0 ((ns.length : Int) - 1) && !(containsI (ns.take i) (ns.getD i 0))
noncomputable def permB (n : Nat) (ns : List Int) : Bool := @decide (PermP n ns) (Classical.propDecidable _)
theorem permB_true {n : Nat} {ns : List Int} : permB n ns = true ↔ PermP n ns := by unfold permB; simp
theorem permB_false {n : Nat} {ns : List Int} : permB n ns = false ↔ ¬ PermP n ns := by rw [← permB_true]; simp
theorem getD_take_ {ns : List Int} {i j : Nat} (h : j < i) : (ns.take i).getD j 0 = ns.getD j 0 := by
  simp [List.getD_eq_getElem?_getD, h]
theorem ord_no {ns : List Int} {k : Nat} (hk : k < ns.length) (h : ordAt ns k = false) : permB ns.length ns = false := permB_false.2 fun hp => by
  have h1 := hp.2.1 _ (getD_mem' hk)
  have h2 : inB (ns.getD k 0) 0 ((ns.length : Int) - 1) = true := inB_true.2 (by omega)
  have h3 : containsI (ns.take k) (ns.getD k 0) = false := by
    unfold containsI
    rw [decide_eq_false_iff_not]
    intro hm
    obtain ⟨j, hj, e⟩ := List.mem_iff_getElem.1 hm
    rw [List.length_take] at hj
    rw [List.getElem_take] at e
    rw [show ns.getD k 0 = ns[k] by simp [hk]] at e
    exact List.pairwise_iff_getElem.1 hp.2.2 j k (by omega) hk (by omega) e
  rw [ordAt, h2, h3] at h
  simp at h
theorem ord_yes {ns : List Int} (h : ∀ k, k < ns.length → ordAt ns k = true) : permB ns.length ns = true := permB_true.2 <| by
  have hA : ∀ k, k < ns.length → (0 ≤ ns.getD k 0 ∧ ns.getD k 0 ≤ (ns.length : Int) - 1) ∧ ns.getD k 0 ∉ ns.take k := fun k hk => by
    have := h k hk
    unfold ordAt at this
    rw [Bool.and_eq_true, inB_true] at this
    refine ⟨this.1, ?_⟩
    have := this.2
    unfold containsI at this
    simpa using this
  refine ⟨rfl, fun x hx => ?_, ?_⟩
  · obtain ⟨k, hk, rfl⟩ := List.mem_iff_getElem.1 hx
    have := (hA k hk).1
    rw [show ns.getD k 0 = ns[k] by simp [hk]] at this
    omega
  · rw [List.Nodup, List.pairwise_iff_getElem]
    intro i j hi hj hij e
    refine (hA j hj).2 ?_
    rw [show ns.getD j 0 = ns[j] by simp [hj], ← e]
    rw [List.mem_iff_getElem]
    exact ⟨i, by rw [List.length_take]; omega, by rw [List.getElem_take]⟩
set_option maxHeartbeats 2000000 in
theorem isOrder_any (nv : Value) (ns : List Int) (w : World) (h : Rd w nv ns) (hl : ns.length ≤ 1099511627776) :
    Calls Tryd.prog 46 #[nv] w fun e w' => e = .returned (.bool (permB ns.length ns)) ∧ Below w.heap.size w w' := by
  have HR := Lib.hid h
  obtain ⟨B, d, rfl, hl2, hm2, hc2⟩ := h
  unfold maxLen at hm2
  have HC := Lib.hid hc2
  clear hc2
  have HNO := Lib.hid (fun (k : Nat) (hk : k < ns.length) (hq : ordAt ns k = false) => ord_no hk hq)
  have HYES := Lib.hid (fun (hq : ∀ k, k < ns.length → ordAt ns k = true) => ord_yes hq)
  have HAT : Hid (∀ k, ordAt ns k = (inB (ns.getD k 0) 0 ((ns.length : Int) - 1) && !(containsI (ns.take k) (ns.getD k 0)))) := fun _ => rfl
  generalize hn : ns.length = n at *
  have HN := Lib.hid hn
  clear hn
  go_enter Tryd.func46, Tryd.ntmps46
  go_wp2
  go_loopw [7] (fun i wr => ∃ k : Nat, k ≤ n ∧ i = .int .i64 k ∧ Hid (∀ j, j < k → ordAt ns j = true) ∧ Below w.heap.size w wr) (fun i _ => n - (intOf i).toNat)
  case atStart => exact ⟨0, by omega, rfl, fun _ h => absurd h (by omega), Below.refl _ _⟩
  case round =>
    obtain ⟨k, hk, rfl, HP, hb⟩ := hrel
    have HB := Lib.hid hb
    clear hb
    by_cases hlt : k < n
    · obtain ⟨g, off, rfl, hg, hy⟩ := HC.out (by omega)
      have hyk := (HB.out.cell (p := ⟨g, off + k, none⟩) hg).trans (hy k hlt)
      have HA := Lib.hid (HAT.out k)
      have hT := Lib.hid ((HR.out.below HB.out).take_ k (by rw [HN.out]; omega))
      have HNK := Lib.hid (HNO.out k hlt)
      clear hy
      generalize hz : ns.getD k 0 = y at *
      clear hz
      rcases q1 : inB y 0 ((n : Int) - 1) with _ | _
      · go_wp2_with fail
        refine (within_any _ _ _ _).mono ?_
        rintro e wz ⟨rfl, rfl⟩
        rw [q1]
        go_wp2
        go_ret
        exact ⟨ret_bool (HNK.out (by rw [HA.out, q1]; rfl)).symm, HB.out⟩
      · rcases q2 : containsI (ns.take k) y with _ | _
        · go_wp2_with fail
          refine (within_any _ _ _ _).mono ?_
          rintro e wz ⟨rfl, rfl⟩
          rw [q1]
          go_wp2_with fail
          refine (contains_any _ (ns.take k) y _ hT.out).mono ?_
          rintro e wz ⟨rfl, rfl⟩
          rw [q2]
          go_wp2
          go_roundw
          case rel => exact ⟨k + 1, by omega, by go_num, fun j hj => by
            by_cases hjk : j < k
            · exact HP.out j hjk
            · obtain rfl : j = k := by omega
              rw [HA.out, q1, q2]; rfl, HB.out⟩
          case measure => simp [intOf]; omega
        · go_wp2_with fail
          refine (within_any _ _ _ _).mono ?_
          rintro e wz ⟨rfl, rfl⟩
          rw [q1]
          go_wp2_with fail
          refine (contains_any _ (ns.take k) y _ hT.out).mono ?_
          rintro e wz ⟨rfl, rfl⟩
          rw [q2]
          go_wp2
          go_ret
          exact ⟨ret_bool (HNK.out (by rw [HA.out, q1, q2]; rfl)).symm, HB.out⟩
    · obtain rfl : k = n := by omega
      go_wp2
      go_ret
      exact ⟨ret_bool (HYES.out HP.out).symm, HB.out⟩
set_option maxHeartbeats 1000000 in
theorem equal_any (v1 v2 : Value) (xs ys : List Int) (w : World) (h1 : Rd w v1 xs) (h2 : Rd w v2 ys) :
    Calls Tryd.prog 65 #[v1, v2] w fun e w' => e = .returned (.bool (decide (xs = ys))) ∧ Below w.heap.size w w' := by
  obtain ⟨A, c, rfl, hl1, hm1, hc1⟩ := h1
  obtain ⟨B, d, rfl, hl2, hm2, hc2⟩ := h2
  unfold maxLen at hm1 hm2
  generalize hn : xs.length = n at *
  generalize hm : ys.length = m at *
  have H1 := Lib.hid hn
  have H2 := Lib.hid hm
  have H3 := Lib.hid hc1
  have H4 := Lib.hid hc2
  clear hn hm hc1 hc2
  by_cases hnm : n = m
  · subst hnm
    have hne : ((n : Int) != (n : Int)) = false := by simp
    go_enter Tryd.func65, Tryd.ntmps65
    go_wp2
    go_loopw [13] (fun i wr => ∃ k : Nat, k ≤ n ∧ i = .int .i64 k ∧ Hid (∀ j, j < k → xs.getD j 0 = ys.getD j 0) ∧ Below w.heap.size w wr) (fun i _ => n - (intOf i).toNat)
    case atStart => exact ⟨0, by omega, rfl, fun j hj => absurd hj (by omega), Below.refl _ _⟩
    case round =>
      obtain ⟨k, hk, rfl, HP, hb⟩ := hrel
      have HB := Lib.hid hb
      clear hb
      by_cases hlt : k < n
      · obtain ⟨b, off, rfl, hb, hx⟩ := H3.out (by omega)
        obtain ⟨b', off', rfl, hb', hy⟩ := H4.out (by omega)
        have hxk := cell_regrown ((HB.out.cell (p := ⟨b, off + k, none⟩) hb).trans (hx k hlt))
        have hyk := cell_regrown ((HB.out.cell (p := ⟨b', off' + k, none⟩) hb').trans (hy k hlt))
        clear hx hy
        generalize hx1 : xs.getD k 0 = x at *
        generalize hy1 : ys.getD k 0 = y at *
        have HX1 := Lib.hid hx1
        have HY1 := Lib.hid hy1
        clear hx1 hy1
        rcases q : (x != y) with _ | _
        · go_wp2_with fail
          refine wp_region_below (by kernel_rfl) (by kernel_rfl) ?_
          repeat (go_big_quiet_step (first | (with_reducible fail)))
          refine wpQuiet_nil ?_
          intro wq hbq0
          have HQ := Lib.hid (Below.then HB.out hbq0)
          clear hbq0 hxk hyk
          go_wp2
          go_roundw
          case rel =>
            refine ⟨k + 1, by omega, by go_num, fun j hj => ?_, HQ.out⟩
            by_cases hjk : j < k
            · exact HP.out j hjk
            · obtain rfl : j = k := by omega
              rw [HX1.out, HY1.out]; simpa using q
          case measure => simp [intOf]; omega
        · go_wp2_with fail
          refine wp_region_below (by kernel_rfl) (by kernel_rfl) ?_
          repeat (go_big_quiet_step (first | (with_reducible fail)))
          refine wpQuiet_nil ?_
          intro wq hbq0
          have HQ := Lib.hid (Below.then HB.out hbq0)
          clear hbq0 hxk hyk
          go_wp2
          go_ret
          refine ⟨ret_bool (decide_eq_false ?_).symm, HQ.out⟩
          rintro rfl
          rw [← HX1.out, ← HY1.out] at q
          simp at q
      · obtain rfl : k = n := by omega
        go_wp2
        go_ret
        exact ⟨ret_bool (eqIntS_true xs ys (by rw [H1.out, H2.out]) fun j hj => HP.out j (by have := H1.out; omega)).symm, HB.out⟩
  · have hne : ((n : Int) != (m : Int)) = true := by simp; omega
    go_enter Tryd.func65, Tryd.ntmps65
    go_wp2
    go_ret
    refine ⟨ret_bool (decide_eq_false ?_).symm, Below.refl _ _⟩
    rintro rfl
    exact hnm (H1.out.symm.trans H2.out)
set_option maxHeartbeats 1000000 in
theorem same_any (n : Nat) (v1 v2 : Value) (xs ys : List Int) (w : World) (h1 : Rd w v1 xs) (h2 : Rd w v2 ys) :
    Calls Tryd.prog 31 #[.agg #[.int .i64 n, v1], .agg #[.int .i64 n, v2]] w fun e w' => e = .returned (.bool (decide (xs = ys))) ∧ Below w.heap.size w w' := by
  have H1 := Lib.hid h1
  have H2 := Lib.hid h2
  obtain ⟨A, c, rfl, -, -, -⟩ := h1
  obtain ⟨B, d, rfl, -, -, -⟩ := h2
  have b2 := (below_alloc1 w (.cells #[.int .i64 n, .slice A xs.length c] 25)).alloc (by simp) (.cells #[.int .i64 n, .slice B ys.length d] 25)
  have HB := Lib.hid b2
  clear b2
  have hne : ((n : Int) == (n : Int)) = true := by simp
  go_enter Tryd.func31, Tryd.ntmps31
  go_wp2_with fail
  refine (equal_any _ _ xs ys _ (H1.out.below HB.out) (H2.out.below HB.out)).mono ?_
  rintro e w1 ⟨rfl, hb1⟩
  have HB1 := Lib.hid (Below.then HB.out hb1)
  clear hb1
  go_wp2
  go_ret
  exact ⟨rfl, HB1.out⟩
end Go.Proofs.YthoodjjjklbggaaDoor

