/- Texts put together: Ren2, CallS, HeldT. -/
import Derived.Test.YtajeledbmnndmaaMStrong03
import Derived.Test.YtajeledbmnndmaaMStrong01
import Derived.Deep.RegionLaw
import Derived.Test.YtajeledbmnndmaaMStrong02
import Derived.Deep.RegionHeld3
namespace Go.Proofs.Ytajeledbmnndmaa
open Go.RowKit Go.Sort
set_option maxRecDepth 100000
set_option maxHeartbeats 4000000 in
theorem l02Rename_any (s : Int) (sl : Value) (xs ns : List Int) (nv : Value) (w : World) (h : Rd w sl xs) (hp : tourP s xs) (h2 : Rd w nv ns) (hP : PermP xs.length ns) :
    Calls Try.prog 125 #[.agg #[.int .i64 s, sl], nv] w fun e w' => ∃ sl', e = .returned (.agg #[.int .i64 s, sl']) ∧ Own w' w.heap.size sl' (rnL xs ns) ∧ rnF xs ns xs.length (rnL xs ns) xs.length 0 ∧ Below w.heap.size w w' := by
  obtain ⟨i0, hi, hz0, hz1, hz2⟩ := info_parts i64_info
  obtain ⟨g, off, c, rfl, hm, hg, hx⟩ := tour_cells h hp
  unfold maxLen at hm
  have hs := hp.1
  have hsl := hp.2.1
  have HX := Lib.hid hx
  have HW := Lib.hid (fun j hj => (tour_wins hp (a := j) hj).2.2)
  obtain ⟨B, d, rfl, hdl, hdm, hdc⟩ := h2
  rw [hP.1] at hdl hdc ⊢
  obtain ⟨gn, on, rfl, hgn, hnx⟩ := hdc (by omega)
  unfold maxLen at hdm
  have HNX := Lib.hid hnx
  clear hp h hx hdc hnx
  generalize hn : xs.length = n at *
  obtain rfl : s = n := by omega
  have HN := Lib.hid hn
  have HPP := Lib.hid hP
  clear hn hP
  go_enter Try.func125, Try.ntmps125
  go_wp2_with fail
  have b0 := (below_alloc1 w (.cells #[.int .i64 n, .slice (some ⟨g, off, none⟩) n c] 28)).alloc (by simp) (.cells #[.int .i64 0, .slice none 0 0] 28)
  have x0 := (TBox.new w n (.slice (some ⟨g, off, none⟩) n c) 28).below (below_alloc1 _ (.cells #[.int .i64 0, .slice none 0 0] 28))
  have t0 := BoxF.new (w.alloc (.cells #[.int .i64 n, .slice (some ⟨g, off, none⟩) n c] 28)) 0 (.slice none 0 0) 28
  simp only [World.size_alloc] at t0
  generalize (w.alloc (.cells #[.int .i64 n, .slice (some ⟨g, off, none⟩) n c] 28)).alloc (.cells #[.int .i64 0, .slice none 0 0] 28) = w0 at *
  have HX0 := Lib.hid x0
  have HB0 := Lib.hid b0
  have HT0 := Lib.hid t0
  clear x0 b0 t0
  have y0_0 := HX0.out.1
  have y1_0 := HX0.out.2
  have hgt0 : w.heap.size + 1 < w0.heap.size := HT0.out.gt
  have bA := below_alloc1 w0 (.cells #[.int .i64 0, .slice none 0 0] 28)
  have hXA := HX0.out.below bA
  have hTA := HT0.out.below bA
  have ya0 := hXA.1
  have ya1 := hXA.2
  have hUA := BoxF.new w0 0 (.slice none 0 0) 28
  have BA : Below w.heap.size w (w0.alloc (.cells #[.int .i64 0, .slice none 0 0] 28)).drew := (let q := Below.then HB0.out bA; ⟨q.os, q.tape, q.output, q.size, q.block⟩)
  have B0d : Below w.heap.size w w0.drew := ⟨HB0.out.os, HB0.out.tape, HB0.out.output, HB0.out.size, HB0.out.block⟩
  -- the row made first, or the box laid first
  obtain ⟨W1, hrun1, r1, gr1⟩ := run_make_full (P := Try.prog) w0.drew w0.heap.size 22 3 i0 (.int .i64 0) 1 Try.underlying22 hi hz0 hz1 .i64 .i64 n (by rw [hz2]; omega) (by unfold maxLen; omega) (Nat.le_refl _)
  obtain ⟨W2, hrun2, r2, gr2⟩ := run_make_full (P := Try.prog) (w0.alloc (.cells #[.int .i64 0, .slice none 0 0] 28)).drew w0.heap.size 22 3 i0 (.int .i64 0) 1 Try.underlying22 hi hz0 hz1 .i64 .i64 n (by rw [hz2]; omega) (by unfold maxLen; omega) (show w0.heap.size ≤ (w0.alloc (.cells #[.int .i64 0, .slice none 0 0] 28)).heap.size by simp)
  have X1 := (show TBox w0.drew w.heap.size n (.slice (some ⟨g, off, none⟩) n c) from HX0.out).kept gr1 (by simp)
  have T1 := Lib.hid ((show BoxF w0.drew (w.heap.size + 1) 0 (.slice none 0 0) from HT0.out).kept gr1 (by simp))
  have B1 := Lib.hid (Below.grown B0d gr1 B0d.size (by simp))
  have X2 := (show TBox (w0.alloc (.cells #[.int .i64 0, .slice none 0 0] 28)).drew w.heap.size n (.slice (some ⟨g, off, none⟩) n c) from hXA).kept gr2 (by simp)
  have T2 := Lib.hid ((show BoxF (w0.alloc (.cells #[.int .i64 0, .slice none 0 0] 28)).drew (w.heap.size + 1) 0 (.slice none 0 0) from hTA).kept gr2 (by simp))
  have U2 := (show BoxF (w0.alloc (.cells #[.int .i64 0, .slice none 0 0] 28)).drew w0.heap.size 0 (.slice none 0 0) from hUA).kept gr2 (by simp)
  have B2 := Lib.hid (Below.grown BA gr2 BA.size (by simp))
  rw [ints_made'] at r1 r2
  have O1 : Hid (Own W1 w0.heap.size (.slice (some ⟨w0.heap.size, 0, none⟩) n n) (List.replicate n 0)) := by unfold Hid Own; rw [List.length_replicate]; exact r1
  have O2' : Own W2 w0.heap.size (.slice (some ⟨(w0.alloc (.cells #[.int .i64 0, .slice none 0 0] 28)).heap.size, 0, none⟩) n n) (List.replicate n 0) := by unfold Own; rw [List.length_replicate]; exact r2
  simp only [World.size_alloc] at O2'
  have O2 := Lib.hid O2'
  have hu0 := U2.1.1
  have hu1 := U2.1.2
  have hf0 := U2.2 0
  have hf1 := U2.2 1
  have q10 := X1.1
  have q11 := X1.2
  have q20 := X2.1
  have q21 := X2.2
  have z1 := X1.below (below_alloc1 W1 (.cells #[.int .i64 0, .slice none 0 0] 28))
  have q30 := z1.1
  have q31 := z1.2
  have z2 := X1.below (below_alloc1 W1 (.cells #[.int .i64 n, .slice (some ⟨w0.heap.size, 0, none⟩) n n] 28))
  have q40 := z2.1
  have q41 := z2.2
  have z3 := (X2.kept (setCell_grown _ ⟨w0.heap.size, 0, none⟩ (.int .i64 n)) (by simp; omega)).kept (setCell_grown _ ⟨w0.heap.size, 1, none⟩ (.slice (some ⟨w0.heap.size + 1, 0, none⟩) n n)) (by simp; omega)
  have q50 := z3.1
  have q51 := z3.2
  have hs1 := gr1.size
  have Hs1 : w0.heap.size < W1.heap.size := (World.ownsRow.lt r1 w0.heap.size rfl).2
  clear O2' bA hXA hTA hUA BA B0d r1 r2 gr1 gr2 X1 X2 z1 z2 z3
  go_region_held3 (fun W => W.cell? ⟨w.heap.size, 0, none⟩ = some (.int .i64 n) ∧ W.cell? ⟨w.heap.size, 1, none⟩ = some (.slice (some ⟨g, off, none⟩) n c))
    (first | exact ⟨y0_0, y1_0⟩ | exact ⟨ya0, ya1⟩ | exact ⟨q10, q11⟩ | exact ⟨q20, q21⟩ | exact ⟨q30, q31⟩ | exact ⟨q40, q41⟩ | exact ⟨q50, q51⟩)
    (first
      | (fail))
  all_goals
    clear hrun1 hrun2 y0_0 y1_0 ya0 ya1 q10 q11 q20 q21
    first
      | (have hck : W1 = W1 := rfl
         have HU := Lib.hid (BoxF.new W1 n (.slice (some ⟨w0.heap.size, 0, none⟩) n n) 28)
         have b2 := below_alloc1 W1 (.cells #[.int .i64 n, .slice (some ⟨w0.heap.size, 0, none⟩) n n] 28)
         have HT := Lib.hid (T1.out.below b2)
         have HO := Lib.hid (O1.out.below b2)
         have HB := Lib.hid (Below.then B1.out b2)
         have HXW := Lib.hid (show TBox _ w.heap.size n (.slice (some ⟨g, off, none⟩) n c) from ⟨q40, q41⟩)
         have hgu : w.heap.size + 1 < W1.heap.size ∧ W1.heap.size ≠ w0.heap.size ∧ w.heap.size + 1 < w0.heap.size := by omega
         clear b2 O1 T1 B1 O2 T2 B2 q30 q31 q40 q41 q50 q51 hu0 hu1 hf0 hf1 U2 Hs1 hs1
         generalize hWW : W1.alloc (.cells #[.int .i64 n, .slice (some ⟨w0.heap.size, 0, none⟩) n n] 28) = W at HU HT HO HB HXW ⊢
         obtain ⟨gu, hgue⟩ : ∃ gu, gu = W1.heap.size := ⟨_, rfl⟩
         rw [← hgue] at HU hgu ⊢
         obtain ⟨gl, hgle⟩ : ∃ gl, gl = w0.heap.size := ⟨_, rfl⟩
         rw [← hgle] at HU HO hgu ⊢
         have hcheck : (Value.pointer (some ⟨gu, 0, none⟩)) = Value.pointer (some ⟨W1.heap.size, 0, none⟩) := by rw [hgue]
         clear hcheck hgle hgue hWW hck hgt0
         clear HX0 HT0 HB0
         skip)
      | (have HU := Lib.hid (U2.set01 n (.slice (some ⟨w0.heap.size + 1, 0, none⟩) n n))
         have HT := Lib.hid ((T2.out.kept (setCell_grown _ ⟨w0.heap.size, 0, none⟩ (.int .i64 n)) (by simp; omega)).kept (setCell_grown _ ⟨w0.heap.size, 1, none⟩ (.slice (some ⟨w0.heap.size + 1, 0, none⟩) n n)) (by simp; omega))
         have HO := Lib.hid ((O2.out.kept (setCell_grown _ ⟨w0.heap.size, 0, none⟩ (.int .i64 n)) (by right; simp [Value.ownBlock])).kept (setCell_grown _ ⟨w0.heap.size, 1, none⟩ (.slice (some ⟨w0.heap.size + 1, 0, none⟩) n n)) (by right; simp [Value.ownBlock]))
         have HB := Lib.hid ((B2.out.setCell (p := ⟨w0.heap.size, 0, none⟩) (show w.heap.size ≤ w0.heap.size by omega) (.int .i64 n)).setCell (p := ⟨w0.heap.size, 1, none⟩) (show w.heap.size ≤ w0.heap.size by omega) (.slice (some ⟨w0.heap.size + 1, 0, none⟩) n n))
         have HXW := Lib.hid (show TBox _ w.heap.size n (.slice (some ⟨g, off, none⟩) n c) from ⟨q50, q51⟩)
         have hgu : w.heap.size + 1 < w0.heap.size ∧ w0.heap.size ≠ w0.heap.size + 1 ∧ w.heap.size + 1 < w0.heap.size + 1 := by omega
         clear O1 T1 B1 O2 T2 B2 q30 q31 q40 q41 q50 q51 hu0 hu1 hf0 hf1 U2 Hs1 hs1
         generalize hWW : ((W2.setCell ⟨w0.heap.size, 0, none⟩ (.int .i64 n)).setCell ⟨w0.heap.size, 1, none⟩ (.slice (some ⟨w0.heap.size + 1, 0, none⟩) n n)) = W at HU HT HO HB HXW ⊢
         obtain ⟨gl, hgle⟩ : ∃ gl, gl = w0.heap.size + 1 := ⟨_, rfl⟩
         rw [← hgle] at HU HO hgu ⊢
         obtain ⟨gu, hgue⟩ : ∃ gu, gu = w0.heap.size := ⟨_, rfl⟩
         rw [← hgue] at HU hgu ⊢
         have HO := Lib.hid (HO.out.mono (show w.heap.size ≤ _ by omega))
         clear hgle hgue hWW hgt0
         clear HX0 HT0 HB0
         skip)
    obtain ⟨hgu1, hgu2, hgu3⟩ := hgu
    have HO := Lib.hid (show Own W w.heap.size (.slice (some ⟨gl, 0, none⟩) n n) (List.replicate n 0) from HO.out.mono (by first | exact Nat.le_refl _ | omega))
    have yw0 := HXW.out.1
    have yw1 := HXW.out.2
    go_wp2
    go_loopw [18] (fun i wr => ∃ (a : Nat) (N : List Int), a ≤ n ∧ i = .int .i64 a ∧ Own wr w.heap.size (.slice (some ⟨gl, 0, none⟩) n n) N ∧ Hid (rnF xs ns n N a 0) ∧ BoxF wr gu n (.slice (some ⟨gl, 0, none⟩) n n) ∧ BoxF wr (w.heap.size + 1) 0 (.slice none 0 0) ∧ TBox wr w.heap.size n (.slice (some ⟨g, off, none⟩) n c) ∧ Below w.heap.size w wr) (fun i _ => n - (intOf i).toNat)
    case atStart => exact ⟨0, _, by omega, rfl, HO.out, rnF_start, HU.out, HT.out, HXW.out, HB.out⟩
    case round =>
      obtain ⟨wa, rfl⟩ : ∃ x, x = wr := ⟨_, rfl⟩
      obtain ⟨a, N, ha, rfl, hown, HP, hu, ht, hx, hb⟩ := hrel
      have HOa := Lib.hid hown
      have HUa := Lib.hid hu
      have HTa := Lib.hid ht
      have HXa := Lib.hid hx
      have HBa := Lib.hid hb
      have y0 := hx.1
      have y1 := hx.2
      clear hown hu ht hx hb HO HU HT HXW HB yw0 yw1
      by_cases hlta : a < n
      · have hxa := (HBa.out.cell (p := ⟨g, off + a, none⟩) hg).trans (HX.out a hlta)
        have h256 := HW.out a hlta
        go_wp2
        go_loopw [26] (fun i wr => ∃ (b : Nat) (N : List Int), b ≤ n ∧ i = .int .i64 b ∧ Own wr w.heap.size (.slice (some ⟨gl, 0, none⟩) n n) N ∧ Hid (rnF xs ns n N a b) ∧ BoxF wr gu n (.slice (some ⟨gl, 0, none⟩) n n) ∧ BoxF wr (w.heap.size + 1) 0 (.slice none 0 0) ∧ TBox wr w.heap.size n (.slice (some ⟨g, off, none⟩) n c) ∧ Below w.heap.size w wr) (fun i _ => n - (intOf i).toNat)
        case atStart => exact ⟨0, N, by omega, rfl, HOa.out, HP, HUa.out, HTa.out, HXa.out, HBa.out⟩
        case round =>
          obtain ⟨b, M, hbn, rfl, hown, HP2, hu, ht, hx, hb⟩ := hrel
          have HO := Lib.hid hown
          have HU := Lib.hid hu
          have HT := Lib.hid ht
          have HX2 := Lib.hid hx
          have HB := Lib.hid hb
          clear hown hu ht hx hb y0 y1 hxa
          by_cases hltb : b < n
          · have hbit := bit_test (winsN xs a) b
            rcases hq : (winsN xs a).testBit b with _ | _
            · rw [hq] at hbit
              have HR := Lib.hid (rnF_no HP2.out hq)
              go_wp2
              go_roundw
              case rel => exact ⟨b + 1, M, by omega, by go_num, HO.out, HR.out, HU.out, HT.out, HX2.out, HB.out⟩
              case measure => simp [intOf]; omega
            · rw [hq] at hbit
              obtain ⟨na, va⟩ := nm_val HPP.out hlta
              obtain ⟨nb, vb⟩ := nm_val HPP.out hltb
              obtain ⟨S, hS, -⟩ := HP2.out.2.1 _ va
              obtain ⟨hSn, hSb, hYES⟩ := rnF_yes HPP.out (by omega) HP2.out hlta hltb hS hq
              have HY := Lib.hid hYES
              have hp8 := pow_le (n := n) (by omega)
              have cna := (HB.out.cell (p := ⟨gn, on + a, none⟩) hgn).trans (HNX.out a hlta)
              have cnb := (HB.out.cell (p := ⟨gn, on + b, none⟩) hgn).trans (HNX.out b hltb)
              rw [na] at cna
              rw [nb] at cnb
              have hMl := HP2.out.1
              have za := (HO.out.at1 hMl (by omega)).1 _ va
              rw [hS] at za
              have hao := add_or (S := S) (a := nmN ns b) (by omega) (by omega) hSb
              have hor := add_shl S (nmN ns b) (by omega) (by omega)
              have hY2 := HY.out
              rw [← hao] at hY2
              have HADD := Lib.hid hor
              clear hao
              have HS := Lib.hid hS
              clear hYES hS hSb na nb
              generalize hA : nmN ns a = A at *
              generalize hBB : nmN ns b = B' at *
              have HA := Lib.hid hA
              have HBB := Lib.hid hBB
              clear hA hBB
              generalize hX : S + 2 ^ B' = X at *
              have HXX := Lib.hid hX
              clear hX
              go_wp2_with fail
              have c1 := cell_regrown HU.out.1.2
              have c2 := cell_regrown za
              have c3 := cell_regrown cna
              have c4 := cell_regrown cnb
              clear za cna cnb hbit
              refine wp_region_below_tail 21 (by kernel_rfl) (by kernel_rfl) ?_
              simp only [List.take_succ_cons, List.take_zero, List.drop_succ_cons, List.drop_zero]
              repeat (go_big_quiet_step (first | (with_reducible fail)))
              refine wpQuiet_nil ?_
              intro wq hbq0
              have hbq := Lib.hid hbq0
              clear hbq0
              clear c1 c2 c3 c4 hor
              have O2 := HO.out.below hbq.out
              obtain ⟨hx2, hf2⟩ := O2.at1 hMl (by omega)
              have za := hx2 A va
              have fa := hf2 A
              have HO3 := Lib.hid (O2.set_ hMl A (X : Int)).1
              have HU3 := Lib.hid ((HU.out.below hbq.out).kept (setCell_grown _ ⟨gl, A, none⟩ (.int .i64 X)) (by simp; omega))
              have HT3 := Lib.hid ((HT.out.below hbq.out).kept (setCell_grown _ ⟨gl, A, none⟩ (.int .i64 X)) (by simp; omega))
              have HX3 := Lib.hid ((HX2.out.below hbq.out).kept (setCell_grown _ ⟨gl, A, none⟩ (.int .i64 X)) (by simp; omega))
              have HB3 := Lib.hid ((Below.then HB.out hbq.out).setCell (p := ⟨gl, A, none⟩) (show w.heap.size ≤ gl by omega) (.int .i64 X))
              clear hx2 hf2 O2 HO HU HT HX2 HB hbq
              go_wp2
              go_roundw
              case rel =>
                first | rw [HADD.out] | skip
                exact ⟨b + 1, M.set A X, by omega, by go_num, HO3.out, hY2, HU3.out, HT3.out, HX3.out, HB3.out⟩
              case measure => simp [intOf]; omega
          · obtain rfl : n = b := by omega
            have HR := Lib.hid (rnF_next HP2.out)
            go_wp2
            go_roundw
            case rel => exact ⟨a + 1, M, by omega, by go_num, HO.out, HR.out, HU.out, HT.out, HX2.out, HB.out⟩
            case measure => simp [intOf]; omega
      · obtain rfl : n = a := by omega
        have HE := Lib.hid (rnL_eq HN.out HPP.out HP.out)
        have u0 := HUa.out.1.1
        have u1 := HUa.out.1.2
        have v0 := HTa.out.1.1
        have v1 := HTa.out.1.2
        have f0 := HTa.out.2 0
        have f1 := HTa.out.2 1
        have hgu4 : gu ≠ w.heap.size + 1 := by omega
        have HOx := Lib.hid ((HOa.out.kept (setCell_grown _ ⟨w.heap.size + 1, 0, none⟩ (.int .i64 n)) (by right; simp [Value.ownBlock]; omega)).kept (setCell_grown _ ⟨w.heap.size + 1, 1, none⟩ (.slice (some ⟨gl, 0, none⟩) n n)) (by right; simp [Value.ownBlock]; omega))
        have HBx := Lib.hid ((HBa.out.setCell (p := ⟨w.heap.size + 1, 0, none⟩) (by simp) (.int .i64 n)).setCell (p := ⟨w.heap.size + 1, 1, none⟩) (by simp) (.slice (some ⟨gl, 0, none⟩) n n))
        have R0 : Hid (((wa.setCell ⟨w.heap.size + 1, 0, none⟩ (.int .i64 n)).setCell ⟨w.heap.size + 1, 1, none⟩ (.slice (some ⟨gl, 0, none⟩) n n)).cell? ⟨w.heap.size + 1, 0, none⟩ = some (.int .i64 n)) := (World.cell?_setCell_other _ _ _ _ (by simp)).trans (World.cell?_setCell_same _ _ _ v0)
        have R1 : Hid (((wa.setCell ⟨w.heap.size + 1, 0, none⟩ (.int .i64 n)).setCell ⟨w.heap.size + 1, 1, none⟩ (.slice (some ⟨gl, 0, none⟩) n n)).cell? ⟨w.heap.size + 1, 1, none⟩ = some (.slice (some ⟨gl, 0, none⟩) n n)) := World.cell?_setCell_same _ _ _ ((World.cell?_setCell_other _ _ _ _ (by simp)).trans v1)
        clear y0 y1
        go_wp2
        have r0 := R0.out
        have r1 := R1.out
        refine bodyPost_ret (v := .agg #[.int .i64 n, .slice (some ⟨gl, 0, none⟩) n n]) (by simp only [results, Try.results125]; simp [go_sem, r0, r1]) rfl ⟨_, rfl, ?_, ?_, HBx.out⟩
        · rw [← HE.out]; exact HOx.out
        · rw [← HE.out]; exact HP.out
end Go.Proofs.Ytajeledbmnndmaa

namespace Go.Proofs.Ytajeledbmnndmaa
open Go.RowKit Go.Sort
set_option maxRecDepth 100000
theorem step_call {ops : Array Oper} {o : Oper} {a : Act} {K : Act → World → Prop} {Q : Exit → Act → World → Prop} {E : Prop} (w : World) (hgd : o.guard = none) (f : FuncId) (args : Array Operand) (tys : Array TypeId)
    (ho : o.op = .call { callee := .value (.func f), args := args, argTypes := tys }) (vals : Array Value) (hargs : args.map a.eval = vals)
    (hE : ∀ (args : Array Value) (W : World), (callFunc f args).run Try.prog W = .ok (.enter f args) W)
    (h : Calls Try.prog f vals w fun e w' => ∃ v, e = .returned v ∧ K (a.put o.dst v) w') :
    if Region.wanted o (yielded ops a.tmps) = true then Oper.wp Try.prog o a w K Q else E := by
  have hw : Region.wanted o (yielded ops a.tmps) = true := by simp [Region.wanted, hgd]
  rw [if_pos hw]
  have hr : (execOp a.eval o).run Try.prog w = .ok (.enter f vals) w := by
    unfold execOp
    simp only [ho, resolve, invoke, Sem.run_bind, hargs]
    simp [go_sem, Act.eval, Deferred.ofValue, hE]
  unfold Oper.wp
  rw [hr, Oper.upon_enter]
  exact h.mono fun e w' ⟨v, he, hk⟩ => by subst he; exact hk
def accI (xs : List Int) (k : Nat) : Int := (xs.take k).sum
theorem accI_succ (xs : List Int) {k : Nat} (h : k < xs.length) : accI xs (k + 1) = accI xs k + xs.getD k 0 := by
  unfold accI
  rw [List.take_succ_eq_append_getElem h, List.sum_append, show xs.getD k 0 = xs[k] by simp [h]]
  simp
theorem accI_bd (xs : List Int) (B : Nat) (h : ∀ x ∈ xs, -(B : Int) ≤ x ∧ x ≤ B) : ∀ k, k ≤ xs.length → -((B * k : Nat) : Int) ≤ accI xs k ∧ accI xs k ≤ ((B * k : Nat) : Int) := by
  intro k
  induction k with
  | zero => intro _; simp [accI]
  | succ k ih =>
    intro hk
    have h1 := ih (by omega)
    have h2 := h (xs.getD k 0) (by rw [show xs.getD k 0 = xs[k] by simp [show k < xs.length by omega]]; exact List.getElem_mem _)
    rw [accI_succ xs (by omega), Nat.mul_succ]
    push_cast at *
    omega
set_option maxHeartbeats 4000000 in
theorem sum_any (w : World) (v : Value) (xs : List Int) (B : Nat) (h : Rd w v xs) (hn : xs.length ≤ 64) (hB : B ≤ 1000000000000) (hb : ∀ x ∈ xs, -(B : Int) ≤ x ∧ x ≤ B) :
    Calls Try.prog 29 #[v] w fun e w' => e = .returned (.int .i64 xs.sum) ∧ w = w' := by
  have HBD := Lib.hid (fun k hk => accI_bd xs B hb k hk)
  have HAS := Lib.hid (fun (k : Nat) hk => @accI_succ xs k hk)
  have HE : Hid (accI xs xs.length = xs.sum) := Lib.hid (by unfold accI; rw [List.take_length])
  have hxb := Lib.hid hb
  obtain ⟨A, c, rfl, hl, hm, hx⟩ := h
  unfold maxLen at hm
  have HX := Lib.hid hx
  clear hx hb
  generalize hln : xs.length = n at *
  have HLN := Lib.hid hln
  clear hln
  go_enter Try.func29, Try.ntmps29
  go_wp2
  go_loop [3, 8] (fun a i => ∃ k : Nat, ∃ y : Int, k ≤ n ∧ i = .int .i64 k ∧ a = .int .i64 y ∧ Hid (y = accI xs k)) (fun _ i => n - (intOf i).toNat)
  case atStart => exact ⟨0, 0, by omega, rfl, rfl, Lib.hid rfl⟩
  case round =>
    obtain ⟨k, y, hk, rfl, rfl, HY⟩ := hrel
    by_cases hlt : k < n
    · obtain ⟨g, off, rfl, hg, hcell⟩ := HX.out (by omega)
      have z := hcell k hlt
      have b1 := HBD.out k hk
      have b2 := HBD.out (k + 1) hlt
      have es := HAS.out k hlt
      have e0 : B * k ≤ 1000000000000 * 64 := Nat.mul_le_mul hB (by omega)
      have e1 : B * (k + 1) ≤ 1000000000000 * 64 := Nat.mul_le_mul hB (by omega)
      rw [es, ← HY.out] at b2
      rw [← HY.out] at b1 es
      have ES := Lib.hid es
      clear hcell es
      generalize xs.getD k 0 = x at *
      have ea : IntKind.i64.wrap (y + x) = y + x := IntWalk.i64_in _ (by omega)
      go_wp2
      go_round
      case rel => exact ⟨k + 1, y + x, by omega, by go_num, by first | rfl | go_num, Lib.hid ES.out.symm⟩
      case measure => simp [intOf]; omega
    · obtain rfl : n = k := by omega
      go_wp2
      go_ret
      exact ⟨ret_int (by rw [HY.out, HE.out]), rfl⟩
end Go.Proofs.Ytajeledbmnndmaa

namespace Go.Proofs.Ytajeledbmnndmaa
open Go.RowKit Go.Sort

section
variable {P : Program} {ops : Array Oper} {md : Region.Mode} {S : World → Prop} {R : Exit → Act → World → Prop}

/-- whatever order is picked among the first n, with f of them left to do; S holds behind each -/
def pickH (P : Program) (md : Region.Mode) (ops : Array Oper) (R : Exit → Act → World → Prop) (S : World → Prop) (n : Nat) (L : Array Bool → Act → World → Prop) : Nat → Array Bool → Act → World → Prop
  | 0, b, a, w => L b a w
  | f + 1, b, a, w => Region.ready md ops b ≠ [] ∧ ∀ i ∈ Region.ready md ops b, i < n ∧ wpOp P ops R i (fun a' w' => S w' ∧ pickH P md ops R S n L f (b.setIfInBounds i true) a' w') a w

theorem pickH_any {n g : Nat} {L : Array Bool → Act → World → Prop} (hL : ∀ b a w, L b a w → wpAny P md ops R g b a w) (f : Nat) :
    ∀ (b : Array Bool) (a : Act) (w : World), pickH P md ops R S n L f b a w → wpAny P md ops R (f + g) b a w := by
  induction f with
  | zero => intro b a w h; rw [Nat.zero_add]; exact hL _ _ _ h
  | succ f ih =>
    intro b a w h
    rw [show f + 1 + g = (f + g) + 1 by omega]
    exact ⟨fun h0 => absurd h0 h.1, fun i hi => wpOp_mono (fun a' w' h' => ih _ a' w' h'.2) (h.2 i hi).2⟩

theorem pickH_first {n i : Nat} {oi : Oper} {v : Value} {L : Array Bool → Act → World → Prop} (hi : ops[i]? = some oi) (hsel : ∀ (j : Nat) (o : Oper) cs b, ops[j]? = some o → o.op ≠ .select cs b)
    (hs : Region.sinkB md ops n = true) (hc : Region.chainB md ops n = true) (hn : n < ops.size) (hin : i < n) (hdone : ∀ b a w, L b a w → ∀ j ∈ Region.ready md ops b, n ≤ j)
    (hQ : ∀ c a w, R (.panic c) (a.put oi.dst v) w → R (.panic c) a w) (f : Nat) :
    ∀ (b : Array Bool) (a : Act) (w : World), HeadInv md ops n b →
      (∀ j oj, ops[j]? = some oj → j ≠ i → b.getD j true = false → (∀ e ∈ oj.after, Region.binds md e = true → e.on ≠ i) → oi.apart ops oj = true) →
      i ∈ Region.ready md ops b → YieldsIf P ops S oi v a → S w →
      pickH P md ops R S n L f (b.setIfInBounds i true) (a.put oi.dst v) w → pickH P md ops R S n L (f + 1) b a w := by
  induction f with
  | zero =>
    intro b a w inv _ hr hy hS H
    have hun := (mem_ready.1 hr).1
    refine ⟨fun h => (by rw [h] at hr; cases hr), fun j hj => ?_⟩
    have hjn : j < n := Nat.lt_of_not_le fun h => tail_waits hs hc hn inv _ i rfl hin hun j h hj
    by_cases hji : j = i
    · subst hji; exact ⟨hjn, hy.wpOp hi hS ⟨hS, H⟩⟩
    · have := hdone _ _ _ H j (ready_mono hj hji); omega
  | succ f ih =>
    intro b a w inv hfree hr hy hS H
    have hun := (mem_ready.1 hr).1
    refine ⟨fun h => (by rw [h] at hr; cases hr), fun j hj => ?_⟩
    have hjn : j < n := Nat.lt_of_not_le fun h => tail_waits hs hc hn inv _ i rfl hin hun j h hj
    refine ⟨hjn, ?_⟩
    by_cases hji : j = i
    · subst hji; exact hy.wpOp hi hS ⟨hS, H⟩
    · obtain ⟨hjun, oj, hoj, hall⟩ := mem_ready.1 hj
      have hnot : ∀ e ∈ oj.after, Region.binds md e = true → e.on ≠ i := fun e he hb heq => by
        have h1 := hall e he hb
        rw [heq, getD_both hun] at h1
        cases h1
      have h2 := wpOp_putIf hoj (hfree j oj hoj hji hjun hnot) (fun cs b => hsel i oi cs b hi) (fun cs b => hsel j oj cs b hoj) hQ hy (H.2 j (ready_mono hj hji)).2
      refine wpOp_mono (fun a' w' h3 => ⟨h3.2.1, ih (b.setIfInBounds j true) a' w' (inv.set hj hjn) (fun k ok hk hki hun hno => hfree k ok hk hki ?_ hno) (ready_mono hr (Ne.symm hji)) h3.1 h3.2.1 ?_⟩) h2
      · by_cases hjk : j = k
        · subst hjk; exact hjun
        · rw [getD_set_ne true hjk] at hun; exact hun
      · rw [Array.setIfInBounds_comm _ _ hji]
        exact h3.2.2

/-- the walk's goal -/
def GoT (P : Program) (md : Region.Mode) (ops : Array Oper) (R : Exit → Act → World → Prop) (S : World → Prop) (n : Nat) (L : Array Bool → Act → World → Prop) (f : Nat) (b : Array Bool) (a : Act) (w : World) : Prop :=
  HeadInv md ops n b → pickH P md ops R S n L f b a w
/-- what the tail's head must look like -/
def tailL (P : Program) (md : Region.Mode) (ops : Array Oper) (R : Exit → Act → World → Prop) (n g : Nat) (l : List Oper) (b : Array Bool) (a : Act) (w : World) : Prop :=
  Region.seqB md ops g n b = true ∧ wpList P ops R l a w
/-- what is checked of a region once -/
def tailOk (md : Region.Mode) (ops : Array Oper) (n : Nat) : Bool := Region.noSelect ops && Region.sinkB md ops n && Region.chainB md ops n && decide (n < ops.size)

theorem drop_at {l : List Oper} {i : Nat} {o : Oper} {rest : List Oper} (h : l.drop i = o :: rest) : l.toArray[i]? = some o := by
  have := congrArg (fun l => l[0]?) h
  simpa [List.getElem?_drop] using this

/-- the operation is read off 'drop i', so that it stands written out -/
theorem GoT.take {l0 rest : List Oper} {n g f i : Nat} {oi : Oper} {v : Value} {l : List Oper} {b : Array Bool} {a : Act} {w : World} (hd : l0.drop i = oi :: rest) (hok : tailOk md l0.toArray n = true) (hin : decide (i < n) = true)
    (hf : Region.free md l0.toArray b i = true) (hr : (Region.ready md l0.toArray b).contains i = true) (hQ : ∀ c a w, R (.panic c) (a.put oi.dst v) w → R (.panic c) a w) (hy : YieldsIf P l0.toArray S oi v a) (hS : S w)
    (h : GoT P md l0.toArray R S n (tailL P md l0.toArray R n g l) f (b.setIfInBounds i true) (a.put oi.dst v) w) : GoT P md l0.toArray R S n (tailL P md l0.toArray R n g l) (f + 1) b a w := by
  intro inv
  have hi := drop_at hd
  simp only [tailOk, Bool.and_eq_true, decide_eq_true_eq] at hok
  have hr' : i ∈ Region.ready md l0.toArray b := by simpa using hr
  exact pickH_first hi (Region.noSelect_spec hok.1.1.1) hok.1.1.2 hok.1.2 hok.2 (of_decide_eq_true hin) (fun b a w hL => seqB_ready hL.1) hQ f b a w inv (Region.free_spec hi hf) hr' hy hS (h (inv.set hr' (of_decide_eq_true hin)))

/-- the only one that may come up -/
theorem GoT.one {l0 rest : List Oper} {n f i : Nat} {o : Oper} {L : Array Bool → Act → World → Prop} {b : Array Bool} {a : Act} {w : World} (hd : l0.drop i = o :: rest) (hin : decide (i < n) = true) (hr : Region.ready md l0.toArray b = [i])
    (h : ∀ K' : Act → World → Prop, Shut (∀ a w, S w → (S w → GoT P md l0.toArray R S n L f (b.setIfInBounds i true) a w) → K' a w) → if Region.wanted o (yielded l0.toArray a.tmps) = true then Oper.wp P o a w K' R else K' (a.put o.dst undef) w) :
    GoT P md l0.toArray R S n L (f + 1) b a w := by
  intro inv
  have hi := drop_at hd
  have hri : i ∈ Region.ready md l0.toArray b := by rw [hr]; simp
  refine ⟨by rw [hr]; simp, fun j hj => ?_⟩
  have hji : j = i := by rw [hr] at hj; simpa using hj
  subst hji
  exact ⟨of_decide_eq_true hin, wpOp_step hi (fun K' hK => h K' (fun a w hS hW => hK a w ⟨hS, hW hS (inv.set hri (of_decide_eq_true hin))⟩))⟩

theorem GoT.stop {n g : Nat} {l : List Oper} {b : Array Bool} {a : Act} {w : World} (hs : Region.seqB md ops g n b = true) (h : wpList P ops R l a w) : GoT P md ops R S n (tailL P md ops R n g l) 0 b a w := fun _ => ⟨hs, h⟩

theorem wp_region_heldT {id : Nat} {Q : Exit → Act → World → Prop} {a : Act} {w : World} {l : List Oper} (n : Nat) (S : World → Prop) (hm : P.follows .mixedOrders = true) (hok : tailOk .any l.toArray n = true) (hS : S w.drew)
    (h : S w.drew → GoT P .any l.toArray Q S n (tailL P .any l.toArray Q n (l.length - n) (l.drop n)) n (Array.replicate l.toArray.size false) a w.drew) : (Code.region id l.toArray true).wp P Q a w := by
  have hn : n < l.length := by simp only [tailOk, Bool.and_eq_true, decide_eq_true_eq] at hok; simpa using hok.2
  have hdl : (l.drop n).length = l.length - n := by simp
  refine wp_region_any hm ?_
  have H := h hS ⟨by simp, fun j oj _ hl => (by rw [getD_replicate_false] at hl; cases hl), fun t _ ht => getD_in (by simpa using ht) (getD_replicate_false _ _)⟩
  have := pickH_any (R := Q) (g := l.length - n) (fun b a' w' hL => by
    have := wpAny_of_seq (md := .any) (Q' := Q) (l.drop n) n b a' w' (fun j => by simp [List.getElem?_drop]) (by rw [hdl]; exact hL.1) hL.2
    rwa [hdl] at this) _ _ _ _ H
  rw [show n + (l.length - n) = l.toArray.size by simp; omega] at this
  exact this
end
end Go.Proofs.Ytajeledbmnndmaa

