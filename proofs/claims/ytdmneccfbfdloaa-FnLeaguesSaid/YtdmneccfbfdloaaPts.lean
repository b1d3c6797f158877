/- FnExactPointsOf: the functions. -/
import Derived.Test.YtdmneccfbfdloaaRec
import Derived.Test.YtdmneccfbfdloaaTail
import Derived.Test.YtdmneccfbfdloaaApp
namespace Go.Proofs.Ytdmneccfbfdloaa
open Go.RowKit Go.Sort

theorem Own.at0 {w : World} {base g n c : Nat} {xs : List Int} (h : Own w base (.slice (some ⟨g, 0, none⟩) n c) xs) (hl : xs.length = n) (h0 : 0 < n) :
    (∀ k, k < n → w.cell? ⟨g, k, none⟩ = some (.int .i64 (xs.getD k 0))) ∧ ∀ k, w.frozen? ⟨g, k, none⟩ = false := by
  obtain ⟨g', c', e, -, -, -, hx, hf⟩ := h.at_ hl h0
  injection e with e _ _
  injection e with e
  injection e with e _ _
  subst e
  exact ⟨hx, hf⟩
theorem ints_made (n : Nat) : (madeCells (Value.int IntKind.i64 0).cells (n * 1)).toList = (List.replicate n (0 : Int)).map (Value.int .i64) := by
  have := toList_madeCells_one (.int .i64 0) (n * 1)
  simpa [Value.cells] using this
/-- the points of a club out of a result -/
def ptsR (c : Int) (r : R4) : Int := if plays c r = true then ptsC (outc c r) else 0
def ptsK (rs : List R4) (c : Int) : Int := (rs.map (ptsR c)).sum
def ptsLK (rs : List R4) (n : Nat) : List Int := (List.range n).map fun c => ptsK rs (c : Nat)
noncomputable def ptsL (s : Int) (rs : List R4) : List Int := if leagueB s rs = true then ptsLK rs s.toNat else []
theorem ptsLK_len (rs : List R4) (n : Nat) : (ptsLK rs n).length = n := by simp [ptsLK]
theorem ptsL_len (s : Int) (rs : List R4) : (ptsL s rs).length ≤ 8 := by
  unfold ptsL
  split
  · rename_i h
    have := (leagueB_true.1 h).1
    rw [ptsLK_len]; omega
  · simp
theorem ptsLK_getD (rs : List R4) (n c : Nat) (h : c < n) : (ptsLK rs n).getD c 0 = ptsK rs c := by simp [ptsLK, h]
theorem ptsC_bd (n : Int) : 0 ≤ ptsC n ∧ ptsC n ≤ 3 := by unfold ptsC; repeat' split <;> omega
theorem ptsK_step {rs : List R4} {k : Nat} (hk : k < rs.length) (c : Int) : ptsK (rs.take (k + 1)) c = ptsK (rs.take k) c + ptsR c (r4At rs k) := by
  rw [take_snocR hk]; simp [ptsK]
theorem ptsR_bd (c : Int) (r : R4) : 0 ≤ ptsR c r ∧ ptsR c r ≤ 3 := by
  have := ptsC_bd (outc c r)
  unfold ptsR; split <;> omega
theorem ptsK_bd (rs : List R4) (c : Int) (k : Nat) (hk : k ≤ rs.length) : 0 ≤ ptsK (rs.take k) c ∧ ptsK (rs.take k) c ≤ 3 * k := by
  induction k with
  | zero => simp [ptsK]
  | succ k ih =>
    have ih := ih (by omega)
    have := ptsR_bd c (r4At rs k)
    rw [ptsK_step (by omega)]; omega
theorem getD_set_ne' {xs : List Int} {a b : Nat} (v : Int) (h : a ≠ b) : (xs.set a v).getD b 0 = xs.getD b 0 := by
  simp [List.getD_eq_getElem?_getD, List.getElem?_set, h]
theorem getD_set_eq' {xs : List Int} {a : Nat} (v : Int) (h : a < xs.length) : (xs.set a v).getD a 0 = v := by
  simp [List.getD_eq_getElem?_getD, h]
/-- both clubs of a result get their points -/
theorem ptsLK_step {rs : List R4} {k n a b : Nat} (hk : k < rs.length) (ha : (r4At rs k).1 = a) (hb : (r4At rs k).2.1 = b) (hab : a ≠ b) (han : a < n) (hbn : b < n) :
    ((ptsLK (rs.take k) n).set a (ptsK (rs.take k) a + ptsC (outc a (r4At rs k)))).set b (ptsK (rs.take k) b + ptsC (outc b (r4At rs k))) = ptsLK (rs.take (k + 1)) n := by
  have hl := ptsLK_len (rs.take k) n
  refine List.ext_getElem (by simp [ptsLK_len]) fun j h1 h2 => ?_
  have hj : j < n := by simpa [ptsLK_len] using h2
  have e2 : (ptsLK (rs.take (k + 1)) n)[j] = ptsK (rs.take (k + 1)) (j : Nat) := by simp [ptsLK]
  have e0 : (ptsLK (rs.take k) n)[j]'(by omega) = ptsK (rs.take k) (j : Nat) := by simp [ptsLK]
  rw [e2, ptsK_step hk, List.getElem_set, List.getElem_set, e0]
  have hpl : plays (j : Int) (r4At rs k) = (decide (a = j) || decide (b = j)) := by
    unfold plays; rw [ha, hb, Bool.eq_iff_iff]; simp; omega
  by_cases e : b = j
  · subst e
    rw [if_pos rfl, ptsR, if_pos (by rw [hpl]; simp)]
  · rw [if_neg e]
    by_cases e' : a = j
    · subst e'
      rw [if_pos rfl, ptsR, if_pos (by rw [hpl]; simp)]
    · rw [if_neg e', ptsR, if_neg (by rw [hpl]; simp [e, e']), Int.add_zero]
theorem ptsLK_zero (n : Nat) : ptsLK [] n = List.replicate n 0 := by
  rw [List.eq_replicate_iff]
  exact ⟨ptsLK_len _ _, fun x hx => by
    unfold ptsLK at hx
    rw [List.mem_map] at hx
    obtain ⟨c, -, rfl⟩ := hx
    rfl⟩
set_option maxHeartbeats 400000 in
theorem pointsFor_any (a b c d club : Int) (w : World) :
    Calls Try.prog 68 #[.agg #[.int .i64 a, .int .i64 b, .int .i64 c, .int .i64 d], .int .i64 club] w fun e w' => e = .returned (.int .i64 (ptsC (outc club (a, b, c, d)))) ∧ Below w.heap.size w w' := by
  have B0 := Lib.hid (below_alloc1 w (.cells #[.int .i64 a, .int .i64 b, .int .i64 c, .int .i64 d] 52))
  have HO := Lib.hid (outc_cases club (a, b, c, d))
  go_enter Try.func68, Try.ntmps68
  go_wp2_with fail
  refine (outcome_any _ _ _ _ _ _).mono ?_
  rintro e w1 ⟨rfl, hb⟩
  have B1 := Lib.hid (Below.then B0.out hb)
  clear hb
  have i0 : ∀ w, (Instr.index 76 (.agg #[.int .i64 0, .int .i64 1, .int .i64 3]) (.int .i64 0)).run Try.prog w = .ok (.int .i64 0) w := fun _ => by kernel_rfl
  have i1 : ∀ w, (Instr.index 76 (.agg #[.int .i64 0, .int .i64 1, .int .i64 3]) (.int .i64 1)).run Try.prog w = .ok (.int .i64 1) w := fun _ => by kernel_rfl
  have i2 : ∀ w, (Instr.index 76 (.agg #[.int .i64 0, .int .i64 1, .int .i64 3]) (.int .i64 2)).run Try.prog w = .ok (.int .i64 3) w := fun _ => by kernel_rfl
  rcases HO.out with ho | ho | ho
  all_goals
    rw [ho]
    have H := Lib.hid ho
    clear ho
    go_wp2
    go_ret
    exact ⟨ret_int (by rw [H.out]; rfl), B1.out⟩
set_option maxHeartbeats 2000000 in
theorem points_any (s : Int) (sl : Value) (rs : List R4) (w : World) (h : RdR w sl rs) (hv : leagueB s rs = true) :
    Calls Try.prog 45 #[.agg #[.int .i64 s, sl]] w fun e w' => ∃ v', e = .returned v' ∧ Own w' w.heap.size v' (ptsLK rs s.toNat) ∧ Below w.heap.size w w' := by
  obtain ⟨i0, hi, hz0, hz1, hz2⟩ := info_parts i64_info
  obtain ⟨A, c, rfl, hl, hm, hc⟩ := h
  unfold maxLen at hm
  have hs := (leagueB_true.1 hv).1
  have h60 := (leagueB_true.1 hv).2.1
  have HV := Lib.hid (fun r hr => resB_true.1 ((leagueB_true.1 hv).2.2 r hr))
  obtain ⟨n, rfl⟩ := Int.eq_ofNat_of_zero_le (by omega : 0 ≤ s)
  rw [show ((n : Int)).toNat = n from rfl]
  generalize hnm : rs.length = m at *
  have HN := Lib.hid hnm
  have HC := Lib.hid hc
  clear hc hnm hv
  go_enter Try.func45, Try.ntmps45
  have b0 := below_alloc1 w (.cells #[.int .i64 n, .slice A m c] 36)
  have x0 := TBox.new w n (.slice A m c) 36
  have HB0 := Lib.hid b0
  have HX0 := Lib.hid x0
  clear b0 x0
  go_wp2_with (at_make; refine wpList_make_full _ rfl _ _ 22 rfl (w.alloc (.cells #[.int .i64 n, .slice A m c] 36)).heap.size 3 i0 (.int .i64 0) 1 Try.underlying22 hi hz0 hz1 _ _ _ _ n rfl rfl rfl rfl (by rw [hz2]; omega) (by unfold maxLen; omega) (Nat.le_refl _) ?_; intro w1 hown hg1; have hb1 : Below (w.alloc (.cells #[.int .i64 n, .slice A m c] 36)).heap.size (w.alloc (.cells #[.int .i64 n, .slice A m c] 36)) w1 := (Below.refl _ _).grown hg1 (Nat.le_refl _) (by simp); have y0' := (HX0.out.below hb1).1; have y1' := (HX0.out.below hb1).2; have HB1 := Lib.hid (Below.then HB0.out hb1); have HOWN := Lib.hid hown; clear hown hg1 hb1)
  have hsz : Hid (w.heap.size ≤ w.heap.size + 1) := Nat.le_succ _
  simp only [World.size_alloc] at HOWN
  generalize w.heap.size + 1 = gl at *
  go_loopw [12] (fun i wr => ∃ k : Nat, k ≤ m ∧ i = .int .i64 k ∧ Own wr w.heap.size (.slice (some ⟨gl, 0, none⟩) n n) (ptsLK (rs.take k) n) ∧ Below w.heap.size w wr) (fun i _ => m - (intOf i).toNat)
  case atStart =>
    refine ⟨0, by omega, rfl, ?_, HB1.out⟩
    have ho := HOWN.out
    rw [ints_made] at ho
    have : Own w1 gl (.slice (some ⟨gl, 0, none⟩) n n) (List.replicate n 0) := by unfold Own; rw [List.length_replicate]; exact ho
    rw [List.take_zero, ptsLK_zero]
    exact this.mono hsz.out
  case round =>
    obtain ⟨k, hk, rfl, hown, hb⟩ := hrel
    clear y0' y1'
    by_cases hlt : k < m
    · obtain ⟨g, off, rfl, hbb, hr⟩ := HC.out (by omega)
      obtain ⟨x0, x1, x2, x3⟩ := (hr k hlt).keep (w' := wr) (fun p hp => hb.cell (by rw [hp]; exact hbb))
      have hv := HV.out _ (r4_mem (by rw [HN.out]; exact hlt : k < rs.length))
      obtain ⟨a, hha⟩ := Int.eq_ofNat_of_zero_le hv.1.1
      obtain ⟨b, hhb⟩ := Int.eq_ofNat_of_zero_le hv.2.1.1
      have han : a < n := by omega
      have hbn : b < n := by omega
      have hab : a ≠ b := fun e => hv.2.2.1 (by rw [hha, hhb, e])
      have HST := Lib.hid (ptsLK_step (n := n) (by rw [HN.out]; exact hlt : k < rs.length) hha hhb hab han hbn)
      have ba := ptsK_bd rs a k (by rw [HN.out]; exact hk)
      have bb := ptsK_bd rs b k (by rw [HN.out]; exact hk)
      have ea := ptsLK_getD (rs.take k) n a han
      have eb := ptsLK_getD (rs.take k) n b hbn
      have hl := ptsLK_len (rs.take k) n
      have hb0 := below_alloc1 wr (.cells #[.int .i64 (r4At rs k).1, .int .i64 (r4At rs k).2.1, .int .i64 (r4At rs k).2.2.1, .int .i64 (r4At rs k).2.2.2] 52)
      have hX := Box4.new wr (r4At rs k).1 (r4At rs k).2.1 (r4At rs k).2.2.1 (r4At rs k).2.2.2 52
      have hgl := (hown.lt gl rfl).2
      have O1 := hown.below hb0
      have B1 := Lib.hid (Below.then hb hb0)
      generalize ptsLK (rs.take k) n = X at *
      generalize ptsK (rs.take k) a = xa at *
      generalize ptsK (rs.take k) b = xb at *
      generalize r4At rs k = q at *
      obtain ⟨qa, qb, qc, qd⟩ := q
      simp only at hha hhb
      subst hha hhb
      have pa := ptsC_bd (outc (a : Int) ((a : Int), (b : Int), qc, qd))
      have pb := ptsC_bd (outc (b : Int) ((a : Int), (b : Int), qc, qd))
      obtain ⟨hx1, -⟩ := O1.at0 hl (by omega)
      have za := hx1 a han
      rw [ea] at za
      clear hx1 hv hr hown hb hb0
      have HXX := Lib.hid hX
      have HO1 := Lib.hid O1
      clear O1
      go_wp2_with fail
      generalize hwe : wr.alloc (.cells #[.int .i64 (a : Int), .int .i64 (b : Int), .int .i64 qc, .int .i64 qd] 52) = w4 at *
      have hgb : Hid (gl ≠ wr.heap.size) := by unfold Hid; omega
      have k1 := quiet_below (w := w4) (fun W hW => pointsFor_any (a : Int) (b : Int) qc qd (a : Int) W)
      generalize hpa : ptsC (outc (a : Int) ((a : Int), (b : Int), qc, qd)) = pa' at *
      generalize hpb : ptsC (outc (b : Int) ((a : Int), (b : Int), qc, qd)) = pb' at *
      have c0 := cell_regrown hX.1
      have c1 := cell_regrown hX.2.1
      have c2 := cell_regrown hX.2.2.1
      have c3 := cell_regrown hX.2.2.2
      have c4 := cell_regrown za
      have HPB := Lib.hid hpb
      clear hX za x0 x1 x2 x3 hpa hpb hwe
      refine wp_region_below_tail 11 (by kernel_rfl) (by kernel_rfl) ?_
      simp only [List.take_succ_cons, List.take_zero, List.drop_succ_cons, List.drop_zero]
      repeat (go_big_quiet_step (first | (with_reducible exact k1 _ _)))
      refine wpQuiet_nil ?_
      intro wq hbq0
      have hbq := Lib.hid hbq0
      clear hbq0
      clear c0 c1 c2 c3 c4 k1
      have O2 := HO1.out.below hbq.out
      obtain ⟨hx2, hf2⟩ := O2.at0 hl (by omega)
      have za := hx2 a han
      rw [ea] at za
      have fa := hf2 a
      obtain ⟨O3, G3⟩ := O2.set_ hl a (xa + pa')
      have X3 := (HXX.out.below hbq.out)
      have X4 : Box4 (wq.setCell ⟨gl, a, none⟩ (.int .i64 (xa + pa'))) wr.heap.size a b qc qd := by
        obtain ⟨u0, u1, u2, u3⟩ := X3
        have F : ∀ o, (⟨gl, a, none⟩ : Addr) ≠ ⟨wr.heap.size, o, none⟩ := fun o e => hgb.out (by injection e)
        exact ⟨(World.cell?_setCell_other _ _ _ _ (F _)).trans u0, (World.cell?_setCell_other _ _ _ _ (F _)).trans u1, (World.cell?_setCell_other _ _ _ _ (F _)).trans u2, (World.cell?_setCell_other _ _ _ _ (F _)).trans u3⟩
      have B3 := Lib.hid ((Below.then B1.out hbq.out).setCell (p := ⟨gl, a, none⟩) (by exact hsz.out) (.int .i64 (xa + pa')))
      have hl3 : (X.set a (xa + pa')).length = n := by rw [List.length_set]; exact hl
      obtain ⟨hx4, -⟩ := O3.at0 hl3 (by omega)
      have zb := hx4 b hbn
      rw [getD_set_ne' _ hab, eb] at zb
      have HO3 := Lib.hid O3
      have HX4 := Lib.hid X4
      clear hx2 hf2 hx4 O2 O3 G3 X3 HXX HO1 B1
      go_wp2_with fail
      generalize wq.setCell ⟨gl, a, none⟩ (.int .i64 (xa + pa')) = w5 at *
      have k1 := quiet_below (w := w5) (fun W hW => pointsFor_any (a : Int) (b : Int) qc qd (b : Int) W)
      rw [HPB.out] at k1
      have c0 := cell_regrown X4.1
      have c1 := cell_regrown X4.2.1
      have c2 := cell_regrown X4.2.2.1
      have c3 := cell_regrown X4.2.2.2
      have c4 := cell_regrown zb
      clear X4 zb za fa hbq wq
      refine wp_region_below_tail 11 (by kernel_rfl) (by kernel_rfl) ?_
      simp only [List.take_succ_cons, List.take_zero, List.drop_succ_cons, List.drop_zero]
      repeat (go_big_quiet_step (first | (with_reducible exact k1 _ _)))
      refine wpQuiet_nil ?_
      intro wq hbq0
      have hbq := Lib.hid hbq0
      clear hbq0
      clear c0 c1 c2 c3 c4 k1
      have O2 := HO3.out.below hbq.out
      obtain ⟨hx2, hf2⟩ := O2.at0 hl3 (by omega)
      have zb := hx2 b hbn
      rw [getD_set_ne' _ hab, eb] at zb
      have fb := hf2 b
      have O5 := (O2.set_ hl3 b (xb + pb')).1
      rw [HST.out] at O5
      have HO5 := Lib.hid O5
      have B5 := Lib.hid ((Below.then B3.out hbq.out).setCell (p := ⟨gl, b, none⟩) (by exact hsz.out) (.int .i64 (xb + pb')))
      clear hx2 hf2 O2 O5
      go_wp2
      go_roundw
      case rel => exact ⟨k + 1, by omega, by go_num, HO5.out, B5.out⟩
      case measure => simp [intOf]; omega
    · obtain rfl : k = m := by omega
      have ht : rs.take k = rs := List.take_of_length_le (by rw [HN.out]; exact Nat.le_refl _)
      rw [ht] at hown
      go_wp2
      go_ret
      exact ⟨_, rfl, hown, hb⟩
set_option maxHeartbeats 400000 in
theorem implPoints (s : Int) (sl : Value) (rs : List R4) (w : World) (h : RdR w sl rs) :
    Calls Try.prog 21 #[.agg #[.int .i64 s, sl]] w fun e w' => ∃ v', e = .returned v' ∧ Own w' w.heap.size v' (ptsL s rs) ∧ Below w.heap.size w w' := by
  have HR := Lib.hid h
  obtain ⟨A, c, rfl, -, -, -⟩ := h
  rcases q0 : leagueB s rs with _ | _
  case false =>
    go_enter Try.func21, Try.ntmps21
    go_wp2_with fail
    have b0 := below_alloc1 w (.cells #[.int .i64 s, .slice A rs.length c] 36)
    have x0 := TBox.new w s (.slice A rs.length c) 36
    generalize w.alloc (.cells #[.int .i64 s, .slice A rs.length c] 36) = w0 at *
    have HX0 := Lib.hid x0
    have HB0 := Lib.hid b0
    clear x0 b0
    have y0_0 := HX0.out.1
    have y1_0 := HX0.out.2
    go_wp2_with fail
    refine (implLeagueOk s _ rs _ (HR.out.below HB0.out)).mono ?_
    rintro e w1 ⟨rfl, hb⟩
    have HX1 := Lib.hid (HX0.out.below hb)
    have HB1 := Lib.hid (Below.then HB0.out hb)
    clear hb HX0 HB0 y0_0 y1_0
    have y0_1 := HX1.out.1
    have y1_1 := HX1.out.2
    rw [q0]
    go_wp2
    go_ret
    exact ⟨_, rfl, by simp only [ptsL, q0]; exact Own.nil_ _ _, HB1.out⟩
  go_enter Try.func21, Try.ntmps21
  go_wp2_with fail
  have b0 := below_alloc1 w (.cells #[.int .i64 s, .slice A rs.length c] 36)
  have x0 := TBox.new w s (.slice A rs.length c) 36
  generalize w.alloc (.cells #[.int .i64 s, .slice A rs.length c] 36) = w0 at *
  have HX0 := Lib.hid x0
  have HB0 := Lib.hid b0
  clear x0 b0
  have y0_0 := HX0.out.1
  have y1_0 := HX0.out.2
  go_wp2_with fail
  refine (implLeagueOk s _ rs _ (HR.out.below HB0.out)).mono ?_
  rintro e w1 ⟨rfl, hb⟩
  have HX1 := Lib.hid (HX0.out.below hb)
  have HB1 := Lib.hid (Below.then HB0.out hb)
  clear hb HX0 HB0 y0_0 y1_0
  have y0_1 := HX1.out.1
  have y1_1 := HX1.out.2
  rw [q0]
  go_wp2_with fail
  refine (points_any s _ rs _ (HR.out.below HB1.out) q0).mono ?_
  rintro e w2 ⟨v, rfl, ho, hb⟩
  have HB2 := Lib.hid (Below.then HB1.out hb)
  have HO := Lib.hid (ho.mono HB1.out.size)
  clear hb ho
  go_wp2
  go_ret
  exact ⟨_, rfl, by simp only [ptsL, q0, if_true]; exact HO.out, HB2.out⟩
end Go.Proofs.Ytdmneccfbfdloaa
