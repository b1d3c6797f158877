/- Texts put together: Ren2. -/
import Derived.Test.YthoodjjjklbggaaGreatDoorMTriangles03
namespace Go.Proofs.YthoodjjjklbggaaGreatDoor
open Go.RowKit Go.Sort
set_option maxRecDepth 100000
set_option maxHeartbeats 4000000 in
theorem l02Rename_any (s : Int) (sl : Value) (xs ns : List Int) (nv : Value) (w : World) (h : Rd w sl xs) (hp : tourP s xs) (h2 : Rd w nv ns) (hP : PermP xs.length ns) :
    Calls Tryz.prog 52 #[.agg #[.int .i64 s, sl], nv] w fun e w' => ∃ sl', e = .returned (.agg #[.int .i64 s, sl']) ∧ Own w' w.heap.size sl' (rnL xs ns) ∧ rnF xs ns xs.length (rnL xs ns) xs.length 0 ∧ Below w.heap.size w w' := by
  obtain ⟨i0, hi, hz0, hz1, hz2⟩ := info_parts i64_info
  obtain ⟨g, off, c, rfl, hm, hg, hx⟩ := tour_cells h hp
  unfold maxLen at hm
  have hs := hp.1
  have hsl := hp.2.1
  have HX := Lib.hid hx
  have HW := Lib.hid (fun j hj => (tour_wins hp (a := j) hj).2.2)
  obtain ⟨B, d, rfl, hdl, hdm, hdc⟩ := h2
  rw [hP.1] at hdl hdc ⊢
  obtain ⟨gn, on, rfl, hgn, hnx⟩ := hdc (by omega)
  unfold maxLen at hdm
  have HNX := Lib.hid hnx
  clear hp h hx hdc hnx
  generalize hn : xs.length = n at *
  obtain rfl : s = n := by omega
  have HN := Lib.hid hn
  have HPP := Lib.hid hP
  clear hn hP
  go_enter Tryz.func52, Tryz.ntmps52
  go_wp2_with fail
  have b0 := (below_alloc1 w (.cells #[.int .i64 n, .slice (some ⟨g, off, none⟩) n c] 25)).alloc (by simp) (.cells #[.int .i64 0, .slice none 0 0] 25)
  have x0 := (TBox.new w n (.slice (some ⟨g, off, none⟩) n c) 25).below (below_alloc1 _ (.cells #[.int .i64 0, .slice none 0 0] 25))
  have t0 := BoxF.new (w.alloc (.cells #[.int .i64 n, .slice (some ⟨g, off, none⟩) n c] 25)) 0 (.slice none 0 0) 25
  simp only [World.size_alloc] at t0
  generalize (w.alloc (.cells #[.int .i64 n, .slice (some ⟨g, off, none⟩) n c] 25)).alloc (.cells #[.int .i64 0, .slice none 0 0] 25) = w0 at *
  have HX0 := Lib.hid x0
  have HB0 := Lib.hid b0
  have HT0 := Lib.hid t0
  clear x0 b0 t0
  have y0_0 := HX0.out.1
  have y1_0 := HX0.out.2
  have hgt0 : w.heap.size + 1 < w0.heap.size := HT0.out.gt
  have bA := below_alloc1 w0 (.cells #[.int .i64 0, .slice none 0 0] 25)
  have hXA := HX0.out.below bA
  have hTA := HT0.out.below bA
  have ya0 := hXA.1
  have ya1 := hXA.2
  have hUA := BoxF.new w0 0 (.slice none 0 0) 25
  have BA : Below w.heap.size w (w0.alloc (.cells #[.int .i64 0, .slice none 0 0] 25)).drew := (let q := Below.then HB0.out bA; ⟨q.os, q.tape, q.output, q.size, q.block⟩)
  have B0d : Below w.heap.size w w0.drew := ⟨HB0.out.os, HB0.out.tape, HB0.out.output, HB0.out.size, HB0.out.block⟩
  -- the row made first, or the box laid first
  obtain ⟨W1, hrun1, r1, gr1⟩ := run_make_full (P := Tryz.prog) w0.drew w0.heap.size 23 3 i0 (.int .i64 0) 1 Tryz.underlying23 hi hz0 hz1 .i64 .i64 n (by rw [hz2]; omega) (by unfold maxLen; omega) (Nat.le_refl _)
  obtain ⟨W2, hrun2, r2, gr2⟩ := run_make_full (P := Tryz.prog) (w0.alloc (.cells #[.int .i64 0, .slice none 0 0] 25)).drew w0.heap.size 23 3 i0 (.int .i64 0) 1 Tryz.underlying23 hi hz0 hz1 .i64 .i64 n (by rw [hz2]; omega) (by unfold maxLen; omega) (show w0.heap.size ≤ (w0.alloc (.cells #[.int .i64 0, .slice none 0 0] 25)).heap.size by simp)
  have X1 := (show TBox w0.drew w.heap.size n (.slice (some ⟨g, off, none⟩) n c) from HX0.out).kept gr1 (by simp)
  have T1 := Lib.hid ((show BoxF w0.drew (w.heap.size + 1) 0 (.slice none 0 0) from HT0.out).kept gr1 (by simp))
  have B1 := Lib.hid (Below.grown B0d gr1 B0d.size (by simp))
  have X2 := (show TBox (w0.alloc (.cells #[.int .i64 0, .slice none 0 0] 25)).drew w.heap.size n (.slice (some ⟨g, off, none⟩) n c) from hXA).kept gr2 (by simp)
  have T2 := Lib.hid ((show BoxF (w0.alloc (.cells #[.int .i64 0, .slice none 0 0] 25)).drew (w.heap.size + 1) 0 (.slice none 0 0) from hTA).kept gr2 (by simp))
  have U2 := (show BoxF (w0.alloc (.cells #[.int .i64 0, .slice none 0 0] 25)).drew w0.heap.size 0 (.slice none 0 0) from hUA).kept gr2 (by simp)
  have B2 := Lib.hid (Below.grown BA gr2 BA.size (by simp))
  rw [ints_made'] at r1 r2
  have O1 : Hid (Own W1 w0.heap.size (.slice (some ⟨w0.heap.size, 0, none⟩) n n) (List.replicate n 0)) := by unfold Hid Own; rw [List.length_replicate]; exact r1
  have O2' : Own W2 w0.heap.size (.slice (some ⟨(w0.alloc (.cells #[.int .i64 0, .slice none 0 0] 25)).heap.size, 0, none⟩) n n) (List.replicate n 0) := by unfold Own; rw [List.length_replicate]; exact r2
  simp only [World.size_alloc] at O2'
  have O2 := Lib.hid O2'
  have hu0 := U2.1.1
  have hu1 := U2.1.2
  have hf0 := U2.2 0
  have hf1 := U2.2 1
  have q10 := X1.1
  have q11 := X1.2
  have q20 := X2.1
  have q21 := X2.2
  have z1 := X1.below (below_alloc1 W1 (.cells #[.int .i64 0, .slice none 0 0] 25))
  have q30 := z1.1
  have q31 := z1.2
  have z2 := X1.below (below_alloc1 W1 (.cells #[.int .i64 n, .slice (some ⟨w0.heap.size, 0, none⟩) n n] 25))
  have q40 := z2.1
  have q41 := z2.2
  have z3 := (X2.kept (setCell_grown _ ⟨w0.heap.size, 0, none⟩ (.int .i64 n)) (by simp; omega)).kept (setCell_grown _ ⟨w0.heap.size, 1, none⟩ (.slice (some ⟨w0.heap.size + 1, 0, none⟩) n n)) (by simp; omega)
  have q50 := z3.1
  have q51 := z3.2
  have hs1 := gr1.size
  have Hs1 : w0.heap.size < W1.heap.size := (World.ownsRow.lt r1 w0.heap.size rfl).2
  clear O2' bA hXA hTA hUA BA B0d r1 r2 gr1 gr2 X1 X2 z1 z2 z3
  go_region_held3 (fun W => W.cell? ⟨w.heap.size, 0, none⟩ = some (.int .i64 n) ∧ W.cell? ⟨w.heap.size, 1, none⟩ = some (.slice (some ⟨g, off, none⟩) n c))
    (first | exact ⟨y0_0, y1_0⟩ | exact ⟨ya0, ya1⟩ | exact ⟨q10, q11⟩ | exact ⟨q20, q21⟩ | exact ⟨q30, q31⟩ | exact ⟨q40, q41⟩ | exact ⟨q50, q51⟩)
    (first
      | (fail))
  all_goals
    clear hrun1 hrun2 y0_0 y1_0 ya0 ya1 q10 q11 q20 q21
    first
      | (have hck : W1 = W1 := rfl
         have HU := Lib.hid (BoxF.new W1 n (.slice (some ⟨w0.heap.size, 0, none⟩) n n) 25)
         have b2 := below_alloc1 W1 (.cells #[.int .i64 n, .slice (some ⟨w0.heap.size, 0, none⟩) n n] 25)
         have HT := Lib.hid (T1.out.below b2)
         have HO := Lib.hid (O1.out.below b2)
         have HB := Lib.hid (Below.then B1.out b2)
         have HXW := Lib.hid (show TBox _ w.heap.size n (.slice (some ⟨g, off, none⟩) n c) from ⟨q40, q41⟩)
         have hgu : w.heap.size + 1 < W1.heap.size ∧ W1.heap.size ≠ w0.heap.size ∧ w.heap.size + 1 < w0.heap.size := by omega
         clear b2 O1 T1 B1 O2 T2 B2 q30 q31 q40 q41 q50 q51 hu0 hu1 hf0 hf1 U2 Hs1 hs1
         generalize hWW : W1.alloc (.cells #[.int .i64 n, .slice (some ⟨w0.heap.size, 0, none⟩) n n] 25) = W at HU HT HO HB HXW ⊢
         obtain ⟨gu, hgue⟩ : ∃ gu, gu = W1.heap.size := ⟨_, rfl⟩
         rw [← hgue] at HU hgu ⊢
         obtain ⟨gl, hgle⟩ : ∃ gl, gl = w0.heap.size := ⟨_, rfl⟩
         rw [← hgle] at HU HO hgu ⊢
         have hcheck : (Value.pointer (some ⟨gu, 0, none⟩)) = Value.pointer (some ⟨W1.heap.size, 0, none⟩) := by rw [hgue]
         clear hcheck hgle hgue hWW hck hgt0
         clear HX0 HT0 HB0
         skip)
      | (have HU := Lib.hid (U2.set01 n (.slice (some ⟨w0.heap.size + 1, 0, none⟩) n n))
         have HT := Lib.hid ((T2.out.kept (setCell_grown _ ⟨w0.heap.size, 0, none⟩ (.int .i64 n)) (by simp; omega)).kept (setCell_grown _ ⟨w0.heap.size, 1, none⟩ (.slice (some ⟨w0.heap.size + 1, 0, none⟩) n n)) (by simp; omega))
         have HO := Lib.hid ((O2.out.kept (setCell_grown _ ⟨w0.heap.size, 0, none⟩ (.int .i64 n)) (by right; simp [Value.ownBlock])).kept (setCell_grown _ ⟨w0.heap.size, 1, none⟩ (.slice (some ⟨w0.heap.size + 1, 0, none⟩) n n)) (by right; simp [Value.ownBlock]))
         have HB := Lib.hid ((B2.out.setCell (p := ⟨w0.heap.size, 0, none⟩) (show w.heap.size ≤ w0.heap.size by omega) (.int .i64 n)).setCell (p := ⟨w0.heap.size, 1, none⟩) (show w.heap.size ≤ w0.heap.size by omega) (.slice (some ⟨w0.heap.size + 1, 0, none⟩) n n))
         have HXW := Lib.hid (show TBox _ w.heap.size n (.slice (some ⟨g, off, none⟩) n c) from ⟨q50, q51⟩)
         have hgu : w.heap.size + 1 < w0.heap.size ∧ w0.heap.size ≠ w0.heap.size + 1 ∧ w.heap.size + 1 < w0.heap.size + 1 := by omega
         clear O1 T1 B1 O2 T2 B2 q30 q31 q40 q41 q50 q51 hu0 hu1 hf0 hf1 U2 Hs1 hs1
         generalize hWW : ((W2.setCell ⟨w0.heap.size, 0, none⟩ (.int .i64 n)).setCell ⟨w0.heap.size, 1, none⟩ (.slice (some ⟨w0.heap.size + 1, 0, none⟩) n n)) = W at HU HT HO HB HXW ⊢
         obtain ⟨gl, hgle⟩ : ∃ gl, gl = w0.heap.size + 1 := ⟨_, rfl⟩
         rw [← hgle] at HU HO hgu ⊢
         obtain ⟨gu, hgue⟩ : ∃ gu, gu = w0.heap.size := ⟨_, rfl⟩
         rw [← hgue] at HU hgu ⊢
         have HO := Lib.hid (HO.out.mono (show w.heap.size ≤ _ by omega))
         clear hgle hgue hWW hgt0
         clear HX0 HT0 HB0
         skip)
    obtain ⟨hgu1, hgu2, hgu3⟩ := hgu
    have HO := Lib.hid (show Own W w.heap.size (.slice (some ⟨gl, 0, none⟩) n n) (List.replicate n 0) from HO.out.mono (by first | exact Nat.le_refl _ | omega))
    have yw0 := HXW.out.1
    have yw1 := HXW.out.2
    go_wp2
    go_loopw [18] (fun i wr => ∃ (a : Nat) (N : List Int), a ≤ n ∧ i = .int .i64 a ∧ Own wr w.heap.size (.slice (some ⟨gl, 0, none⟩) n n) N ∧ Hid (rnF xs ns n N a 0) ∧ BoxF wr gu n (.slice (some ⟨gl, 0, none⟩) n n) ∧ BoxF wr (w.heap.size + 1) 0 (.slice none 0 0) ∧ TBox wr w.heap.size n (.slice (some ⟨g, off, none⟩) n c) ∧ Below w.heap.size w wr) (fun i _ => n - (intOf i).toNat)
    case atStart => exact ⟨0, _, by omega, rfl, HO.out, rnF_start, HU.out, HT.out, HXW.out, HB.out⟩
    case round =>
      obtain ⟨wa, rfl⟩ : ∃ x, x = wr := ⟨_, rfl⟩
      obtain ⟨a, N, ha, rfl, hown, HP, hu, ht, hx, hb⟩ := hrel
      have HOa := Lib.hid hown
      have HUa := Lib.hid hu
      have HTa := Lib.hid ht
      have HXa := Lib.hid hx
      have HBa := Lib.hid hb
      have y0 := hx.1
      have y1 := hx.2
      clear hown hu ht hx hb HO HU HT HXW HB yw0 yw1
      by_cases hlta : a < n
      · have hxa := (HBa.out.cell (p := ⟨g, off + a, none⟩) hg).trans (HX.out a hlta)
        have h256 := HW.out a hlta
        go_wp2
        go_loopw [26] (fun i wr => ∃ (b : Nat) (N : List Int), b ≤ n ∧ i = .int .i64 b ∧ Own wr w.heap.size (.slice (some ⟨gl, 0, none⟩) n n) N ∧ Hid (rnF xs ns n N a b) ∧ BoxF wr gu n (.slice (some ⟨gl, 0, none⟩) n n) ∧ BoxF wr (w.heap.size + 1) 0 (.slice none 0 0) ∧ TBox wr w.heap.size n (.slice (some ⟨g, off, none⟩) n c) ∧ Below w.heap.size w wr) (fun i _ => n - (intOf i).toNat)
        case atStart => exact ⟨0, N, by omega, rfl, HOa.out, HP, HUa.out, HTa.out, HXa.out, HBa.out⟩
        case round =>
          obtain ⟨b, M, hbn, rfl, hown, HP2, hu, ht, hx, hb⟩ := hrel
          have HO := Lib.hid hown
          have HU := Lib.hid hu
          have HT := Lib.hid ht
          have HX2 := Lib.hid hx
          have HB := Lib.hid hb
          clear hown hu ht hx hb y0 y1 hxa
          by_cases hltb : b < n
          · have hbit := bit_test (winsN xs a) b
            rcases hq : (winsN xs a).testBit b with _ | _
            · rw [hq] at hbit
              have HR := Lib.hid (rnF_no HP2.out hq)
              go_wp2
              go_roundw
              case rel => exact ⟨b + 1, M, by omega, by go_num, HO.out, HR.out, HU.out, HT.out, HX2.out, HB.out⟩
              case measure => simp [intOf]; omega
            · rw [hq] at hbit
              obtain ⟨na, va⟩ := nm_val HPP.out hlta
              obtain ⟨nb, vb⟩ := nm_val HPP.out hltb
              obtain ⟨S, hS, -⟩ := HP2.out.2.1 _ va
              obtain ⟨hSn, hSb, hYES⟩ := rnF_yes HPP.out (by omega) HP2.out hlta hltb hS hq
              have HY := Lib.hid hYES
              have hp8 := pow_le (n := n) (by omega)
              have cna := (HB.out.cell (p := ⟨gn, on + a, none⟩) hgn).trans (HNX.out a hlta)
              have cnb := (HB.out.cell (p := ⟨gn, on + b, none⟩) hgn).trans (HNX.out b hltb)
              rw [na] at cna
              rw [nb] at cnb
              have hMl := HP2.out.1
              have za := (HO.out.at1 hMl (by omega)).1 _ va
              rw [hS] at za
              have hao := add_or (S := S) (a := nmN ns b) (by omega) (by omega) hSb
              have hor := add_shl S (nmN ns b) (by omega) (by omega)
              have hY2 := HY.out
              rw [← hao] at hY2
              have HADD := Lib.hid hor
              clear hao
              have HS := Lib.hid hS
              clear hYES hS hSb na nb
              generalize hA : nmN ns a = A at *
              generalize hBB : nmN ns b = B' at *
              have HA := Lib.hid hA
              have HBB := Lib.hid hBB
              clear hA hBB
              generalize hX : S + 2 ^ B' = X at *
              have HXX := Lib.hid hX
              clear hX
              go_wp2_with fail
              have c1 := cell_regrown HU.out.1.2
              have c2 := cell_regrown za
              have c3 := cell_regrown cna
              have c4 := cell_regrown cnb
              clear za cna cnb hbit
              refine wp_region_below_tail 21 (by kernel_rfl) (by kernel_rfl) ?_
              simp only [List.take_succ_cons, List.take_zero, List.drop_succ_cons, List.drop_zero]
              repeat (go_big_quiet_step (first | (with_reducible fail)))
              refine wpQuiet_nil ?_
              intro wq hbq0
              have hbq := Lib.hid hbq0
              clear hbq0
              clear c1 c2 c3 c4 hor
              have O2 := HO.out.below hbq.out
              obtain ⟨hx2, hf2⟩ := O2.at1 hMl (by omega)
              have za := hx2 A va
              have fa := hf2 A
              have HO3 := Lib.hid (O2.set_ hMl A (X : Int)).1
              have HU3 := Lib.hid ((HU.out.below hbq.out).kept (setCell_grown _ ⟨gl, A, none⟩ (.int .i64 X)) (by simp; omega))
              have HT3 := Lib.hid ((HT.out.below hbq.out).kept (setCell_grown _ ⟨gl, A, none⟩ (.int .i64 X)) (by simp; omega))
              have HX3 := Lib.hid ((HX2.out.below hbq.out).kept (setCell_grown _ ⟨gl, A, none⟩ (.int .i64 X)) (by simp; omega))
              have HB3 := Lib.hid ((Below.then HB.out hbq.out).setCell (p := ⟨gl, A, none⟩) (show w.heap.size ≤ gl by omega) (.int .i64 X))
              clear hx2 hf2 O2 HO HU HT HX2 HB hbq
              go_wp2
              go_roundw
              case rel =>
                first | rw [HADD.out] | skip
                exact ⟨b + 1, M.set A X, by omega, by go_num, HO3.out, hY2, HU3.out, HT3.out, HX3.out, HB3.out⟩
              case measure => simp [intOf]; omega
          · obtain rfl : n = b := by omega
            have HR := Lib.hid (rnF_next HP2.out)
            go_wp2
            go_roundw
            case rel => exact ⟨a + 1, M, by omega, by go_num, HO.out, HR.out, HU.out, HT.out, HX2.out, HB.out⟩
            case measure => simp [intOf]; omega
      · obtain rfl : n = a := by omega
        have HE := Lib.hid (rnL_eq HN.out HPP.out HP.out)
        have u0 := HUa.out.1.1
        have u1 := HUa.out.1.2
        have v0 := HTa.out.1.1
        have v1 := HTa.out.1.2
        have f0 := HTa.out.2 0
        have f1 := HTa.out.2 1
        have hgu4 : gu ≠ w.heap.size + 1 := by omega
        have HOx := Lib.hid ((HOa.out.kept (setCell_grown _ ⟨w.heap.size + 1, 0, none⟩ (.int .i64 n)) (by right; simp [Value.ownBlock]; omega)).kept (setCell_grown _ ⟨w.heap.size + 1, 1, none⟩ (.slice (some ⟨gl, 0, none⟩) n n)) (by right; simp [Value.ownBlock]; omega))
        have HBx := Lib.hid ((HBa.out.setCell (p := ⟨w.heap.size + 1, 0, none⟩) (by simp) (.int .i64 n)).setCell (p := ⟨w.heap.size + 1, 1, none⟩) (by simp) (.slice (some ⟨gl, 0, none⟩) n n))
        have R0 : Hid (((wa.setCell ⟨w.heap.size + 1, 0, none⟩ (.int .i64 n)).setCell ⟨w.heap.size + 1, 1, none⟩ (.slice (some ⟨gl, 0, none⟩) n n)).cell? ⟨w.heap.size + 1, 0, none⟩ = some (.int .i64 n)) := (World.cell?_setCell_other _ _ _ _ (by simp)).trans (World.cell?_setCell_same _ _ _ v0)
        have R1 : Hid (((wa.setCell ⟨w.heap.size + 1, 0, none⟩ (.int .i64 n)).setCell ⟨w.heap.size + 1, 1, none⟩ (.slice (some ⟨gl, 0, none⟩) n n)).cell? ⟨w.heap.size + 1, 1, none⟩ = some (.slice (some ⟨gl, 0, none⟩) n n)) := World.cell?_setCell_same _ _ _ ((World.cell?_setCell_other _ _ _ _ (by simp)).trans v1)
        clear y0 y1
        go_wp2
        have r0 := R0.out
        have r1 := R1.out
        refine bodyPost_ret (v := .agg #[.int .i64 n, .slice (some ⟨gl, 0, none⟩) n n]) (by simp only [results, Tryz.results52]; simp [go_sem, r0, r1]) rfl ⟨_, rfl, ?_, ?_, HBx.out⟩
        · rw [← HE.out]; exact HOx.out
        · rw [← HE.out]; exact HP.out
end Go.Proofs.YthoodjjjklbggaaGreatDoor

