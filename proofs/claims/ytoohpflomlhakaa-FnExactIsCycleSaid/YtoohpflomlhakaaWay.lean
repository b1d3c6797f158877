/- FnExactIsWay: the functions. -/
import Derived.Test.YtoohpflomlhakaaTourOkS
import Derived.Test.YtoohpflomlhakaaSets
import Derived.Test.YtoohpflomlhakaaSl
namespace Go.Proofs.Ytoohpflomlhakaa
open Go.RowKit Go.Sort

/-- the i-th of a list goes on a way -/
def wayAt (s : Int) (xs ys : List Int) (i : Nat) : Bool := inB (ys.getD i 0) 0 (s - 1) && (!(containsI (ys.take i) (ys.getD i 0)) && (i == 0 || bitI (xs.getD (ys.getD (i - 1) 0).toNat 0) (ys.getD i 0).toNat))
def wayK (s : Int) (xs ys : List Int) (k : Nat) : Bool := (List.range k).all (wayAt s xs ys)
noncomputable def wayB (s : Int) (xs ys : List Int) : Bool := tourB s xs && wayK s xs ys ys.length
theorem wayK_true {s : Int} {xs ys : List Int} {k : Nat} : wayK s xs ys k = true ↔ ∀ i, i < k → wayAt s xs ys i = true := by simp [wayK]
theorem wayK_no {s : Int} {xs ys : List Int} {k n : Nat} (hk : k < n) (h : wayAt s xs ys k = false) : wayK s xs ys n = false := by
  rcases hq : wayK s xs ys n with _ | _
  · rfl
  · have := wayK_true.1 hq k hk; rw [h] at this; cases this
theorem Rd.take_ {w : World} {A : Option Addr} {n c : Nat} {ys : List Int} (h : Rd w (.slice A n c) ys) (k : Nat) (hk : k ≤ ys.length) : Rd w (.slice A k c) (ys.take k) := by
  obtain ⟨A', c', e, hl, hm, hc⟩ := h
  injection e with e1 e2 e3
  subst e1
  subst e3
  have hl2 : (ys.take k).length = k := by rw [List.length_take]; omega
  refine ⟨A, c, by rw [hl2], by omega, hm, fun h0 => ?_⟩
  obtain ⟨g, off, hA, hg, hx⟩ := hc (by omega)
  refine ⟨g, off, hA, hg, fun j hj => ?_⟩
  rw [hx j (by omega)]
  congr 2
  simp [List.getD_eq_getElem?_getD, List.getElem?_take, show j < k by omega]
set_option maxHeartbeats 2000000 in
theorem implIsWay (s : Int) (sl : Value) (xs : List Int) (yv : Value) (ys : List Int) (w : World) (h : Rd w sl xs) (h2 : Rd w yv ys) :
    Calls Try.prog 23 #[.agg #[.int .i64 s, sl], yv] w fun e w' => e = .returned (.bool (wayB s xs ys)) ∧ Below w.heap.size w w' := by
  have HR := Lib.hid h
  have HW := Lib.hid h2
  obtain ⟨A, c, rfl, -, -, -⟩ := h
  obtain ⟨B, d, rfl, hl2, hm2, hc2⟩ := h2
  unfold maxLen at hm2
  have HC := Lib.hid hc2
  clear hc2
  rcases q0 : tourB s xs with _ | _
  case false =>
    go_enter Try.func23, Try.ntmps23
    go_wp2_with fail
    have b0 := below_alloc1 w (.cells #[.int .i64 s, .slice A xs.length c] 27)
    have x0 := TBox.new w s (.slice A xs.length c) 27
    generalize w.alloc (.cells #[.int .i64 s, .slice A xs.length c] 27) = w0 at *
    have HX0 := Lib.hid x0
    have HB0 := Lib.hid b0
    clear x0 b0
    have y0_0 := HX0.out.1
    have y1_0 := HX0.out.2
    go_wp2_with fail
    refine (implTourOk s _ xs _ (HR.out.below HB0.out)).mono ?_
    rintro e w1 ⟨rfl, hb⟩
    have HX1 := Lib.hid (HX0.out.below hb)
    have HB1 := Lib.hid (Below.then HB0.out hb)
    clear hb HX0 HB0 y0_0 y1_0
    have y0_1 := HX1.out.1
    have y1_1 := HX1.out.2
    rw [q0]
    go_wp2
    go_ret
    exact ⟨ret_bool (by simp [wayB, *]), HB1.out⟩
  have hs := (tourB_true.1 q0).1
  have hsl := (tourB_true.1 q0).2.1
  go_enter Try.func23, Try.ntmps23
  go_wp2_with fail
  have b0 := below_alloc1 w (.cells #[.int .i64 s, .slice A xs.length c] 27)
  have x0 := TBox.new w s (.slice A xs.length c) 27
  generalize w.alloc (.cells #[.int .i64 s, .slice A xs.length c] 27) = w0 at *
  have HX0 := Lib.hid x0
  have HB0 := Lib.hid b0
  clear x0 b0
  have y0_0 := HX0.out.1
  have y1_0 := HX0.out.2
  go_wp2_with fail
  refine (implTourOk s _ xs _ (HR.out.below HB0.out)).mono ?_
  rintro e w1 ⟨rfl, hb⟩
  have HX1 := Lib.hid (HX0.out.below hb)
  have HB1 := Lib.hid (Below.then HB0.out hb)
  clear hb HX0 HB0 y0_0 y1_0
  have y0_1 := HX1.out.1
  have y1_1 := HX1.out.2
  rw [q0]
  generalize hn : ys.length = n at *
  have HN := Lib.hid hn
  clear hn
  go_wp2
  go_loopw [12] (fun i wr => ∃ k : Nat, k ≤ n ∧ i = .int .i64 k ∧ Hid (∀ j, j < k → wayAt s xs ys j = true) ∧ Below w.heap.size w wr ∧ TBox wr w.heap.size s (.slice A xs.length c)) (fun i _ => n - (intOf i).toNat)
  case atStart => exact ⟨0, by omega, rfl, fun _ h => absurd h (by omega), HB1.out, HX1.out⟩
  case round =>
    obtain ⟨k, hk, rfl, HP, hb, hx⟩ := hrel
    have HB2 := Lib.hid hb
    have HX2 := Lib.hid hx
    have y0_0 := hx.1
    have y1_0 := hx.2
    clear hx hb HB1 HX1 y0_1 y1_1
    by_cases hlt : k < n
    · obtain ⟨g, off, rfl, hg, hy⟩ := HC.out (by omega)
      have hyk := (HB2.out.cell (by exact hg)).trans (hy k hlt)
      have hat : wayAt s xs ys k = (inB (ys.getD k 0) 0 (s - 1) && (!(containsI (ys.take k) (ys.getD k 0)) && (k == 0 || bitI (xs.getD (ys.getD (k - 1) 0).toNat 0) (ys.getD k 0).toNat))) := rfl
      have HA := Lib.hid hat
      have ky := fun (y : Int) => quiet_below (w := wr) (fun W hW => has_any s (.slice A xs.length c) y W (by omega))
      have kc := fun (y : Int) => quiet_below (w := wr) (fun W hW => of_same (contains_any _ (ys.take k) y W (((HW.out.below HB2.out).below hW).take_ k (by rw [HN.out]; omega))))
      have k1 := ky (ys.getD k 0)
      have k2 := kc (ys.getD k 0)
      have k3 := fun h1 h2 h3 h4 => quiet_below (w := wr) (fun W hW => beats_any s (.slice A xs.length c) xs (ys.getD (k - 1) 0) (ys.getD k 0) W ((HR.out.below HB2.out).below hW) h1 h2 h3 h4)
      clear ky kc hat
      have FALSE := Lib.hid (fun (hq : wayAt s xs ys k = false) => show wayB s xs ys = false by rw [wayB, wayK_no (by rw [HN.out]; exact hlt) hq, Bool.and_false])
      have NEXT := Lib.hid (fun (hq : wayAt s xs ys k = true) => show ∀ j, j < k + 1 → wayAt s xs ys j = true from fun j hj => by
        by_cases hjk : j < k
        · exact HP.out j hjk
        · obtain rfl : j = k := by omega
          exact hq)
      rcases Nat.eq_zero_or_pos k with rfl | hk0
      · clear k3 hy
        rw [Nat.add_zero] at hyk
        generalize ys.getD 0 0 = y at *
        rcases q1 : inB y 0 (s - 1) with _ | _
        · rw [q1] at k1
          go_wp2_with fail
          have y0_q := cell_regrown y0_0
          have y1_q := cell_regrown y1_0
          clear y0_0 y1_0
          refine wp_region_below (by kernel_rfl) (by kernel_rfl) ?_
          repeat (go_big_quiet_step (first | (with_reducible exact k1 _ _)))
          refine wpQuiet_nil ?_
          intro wq hbq0
          have hbq := Lib.hid hbq0
          clear hbq0
          clear y0_q y1_q
          go_wp2
          go_ret
          exact ⟨ret_bool (FALSE.out (by rw [HA.out, q1]; rfl)).symm, Below.then HB2.out hbq.out⟩
        · rw [q1] at k1
          rcases q2 : containsI (ys.take 0) y with _ | _
          · rw [q2] at k2
            go_wp2_with fail
            have y0_q := cell_regrown y0_0
            have y1_q := cell_regrown y1_0
            clear y0_0 y1_0
            refine wp_region_below (by kernel_rfl) (by kernel_rfl) ?_
            repeat (go_big_quiet_step (first | (with_reducible exact k1 _ _) | (with_reducible exact k2 _ _)))
            refine wpQuiet_nil ?_
            intro wq hbq0
            have hbq := Lib.hid hbq0
            clear hbq0
            clear y0_q y1_q
            go_wp2
            go_roundw
            case rel => exact ⟨0 + 1, by omega, by go_num, NEXT.out (by rw [HA.out, q1, q2]; rfl), Below.then HB2.out hbq.out, HX2.out.below hbq.out⟩
            case measure => simp [intOf]; omega
          · rw [q2] at k2
            go_wp2_with fail
            have y0_q := cell_regrown y0_0
            have y1_q := cell_regrown y1_0
            clear y0_0 y1_0
            refine wp_region_below (by kernel_rfl) (by kernel_rfl) ?_
            repeat (go_big_quiet_step (first | (with_reducible exact k1 _ _) | (with_reducible exact k2 _ _)))
            refine wpQuiet_nil ?_
            intro wq hbq0
            have hbq := Lib.hid hbq0
            clear hbq0
            clear y0_q y1_q
            go_wp2
            go_ret
            exact ⟨ret_bool (FALSE.out (by rw [HA.out, q1, q2]; rfl)).symm, Below.then HB2.out hbq.out⟩
      · obtain ⟨m, rfl⟩ : ∃ m, k = m + 1 := ⟨k - 1, by omega⟩
        have hym := (HB2.out.cell (by exact hg)).trans (hy m (by omega))
        have cm := cell_regrown hym
        have hpm := HP.out m (by omega)
        simp only [Nat.add_sub_cancel] at k3 HA
        clear hy hym
        unfold wayAt at hpm
        rw [Bool.and_eq_true] at hpm
        have hy' := inB_true.1 hpm.1
        clear hpm
        generalize ys.getD (m + 1) 0 = y at *
        generalize ys.getD m 0 = y' at *
        rcases q1 : inB y 0 (s - 1) with _ | _
        · rw [q1] at k1
          go_wp2_with fail
          have y0_q := cell_regrown y0_0
          have y1_q := cell_regrown y1_0
          clear y0_0 y1_0
          refine wp_region_below (by kernel_rfl) (by kernel_rfl) ?_
          repeat (go_big_quiet_step (first | (with_reducible exact k1 _ _)))
          refine wpQuiet_nil ?_
          intro wq hbq0
          have hbq := Lib.hid hbq0
          clear hbq0
          clear y0_q y1_q
          go_wp2
          go_ret
          exact ⟨ret_bool (FALSE.out (by rw [HA.out, q1]; rfl)).symm, Below.then HB2.out hbq.out⟩
        · rw [q1] at k1
          have hy1 := inB_true.1 q1
          have k4 := k3 (by omega) (by omega) (by omega) (by omega)
          clear k3
          rcases q2 : containsI (ys.take (m + 1)) y with _ | _
          · rw [q2] at k2
            rcases q3 : bitI (xs.getD y'.toNat 0) y.toNat with _ | _
            · rw [q3] at k4
              go_wp2_with fail
              have y0_q := cell_regrown y0_0
              have y1_q := cell_regrown y1_0
              clear y0_0 y1_0
              refine wp_region_below (by kernel_rfl) (by kernel_rfl) ?_
              repeat (go_big_quiet_step (first | (with_reducible exact k1 _ _) | (with_reducible exact k2 _ _) | (with_reducible exact k4 _ _)))
              refine wpQuiet_nil ?_
              intro wq hbq0
              have hbq := Lib.hid hbq0
              clear hbq0
              clear y0_q y1_q
              go_wp2
              go_ret
              exact ⟨ret_bool (FALSE.out (by rw [HA.out, q1, q2, q3]; rfl)).symm, Below.then HB2.out hbq.out⟩
            · rw [q3] at k4
              go_wp2_with fail
              have y0_q := cell_regrown y0_0
              have y1_q := cell_regrown y1_0
              clear y0_0 y1_0
              refine wp_region_below (by kernel_rfl) (by kernel_rfl) ?_
              repeat (go_big_quiet_step (first | (with_reducible exact k1 _ _) | (with_reducible exact k2 _ _) | (with_reducible exact k4 _ _)))
              refine wpQuiet_nil ?_
              intro wq hbq0
              have hbq := Lib.hid hbq0
              clear hbq0
              clear y0_q y1_q
              go_wp2
              go_roundw
              case rel => exact ⟨m + 1 + 1, by omega, by go_num, NEXT.out (by rw [HA.out, q1, q2, q3]; simp), Below.then HB2.out hbq.out, HX2.out.below hbq.out⟩
              case measure => simp [intOf]; omega
          · rw [q2] at k2
            go_wp2_with fail
            have y0_q := cell_regrown y0_0
            have y1_q := cell_regrown y1_0
            clear y0_0 y1_0
            refine wp_region_below (by kernel_rfl) (by kernel_rfl) ?_
            repeat (go_big_quiet_step (first | (with_reducible exact k1 _ _) | (with_reducible exact k2 _ _)))
            refine wpQuiet_nil ?_
            intro wq hbq0
            have hbq := Lib.hid hbq0
            clear hbq0
            clear y0_q y1_q
            go_wp2
            go_ret
            exact ⟨ret_bool (FALSE.out (by rw [HA.out, q1, q2]; rfl)).symm, Below.then HB2.out hbq.out⟩
    · obtain rfl : k = n := by omega
      go_wp2
      go_ret
      refine ⟨ret_bool ?_, HB2.out⟩
      rw [wayB, q0, HN.out, wayK_true.2 HP.out]; rfl
theorem wayAt_parts {s : Int} {xs ys : List Int} {i : Nat} (h : wayAt s xs ys i = true) : (0 ≤ ys.getD i 0 ∧ ys.getD i 0 ≤ s - 1) ∧ ys.getD i 0 ∉ ys.take i := by
  unfold wayAt containsI at h
  rw [Bool.and_eq_true, Bool.and_eq_true] at h
  exact ⟨inB_true.1 h.1, by simpa using h.2.1⟩
theorem way_nodup {s : Int} {xs ys : List Int} {k : Nat} (hk : k ≤ ys.length) (h : ∀ j, j < k → wayAt s xs ys j = true) : (ys.take k).Nodup ∧ ∀ y ∈ ys.take k, 0 ≤ y ∧ y ≤ s - 1 := by
  induction k with
  | zero => simp
  | succ k ih =>
    have ih := ih (by omega) (fun j hj => h j (by omega))
    have h1 := wayAt_parts (h k (by omega))
    have e : ys.getD k 0 = ys[k] := by simp [show k < ys.length by omega]
    rw [e] at h1
    rw [List.take_succ_eq_append_getElem (by omega)]
    refine ⟨List.nodup_append.2 ⟨ih.1, by simp, fun a ha b hb => ?_⟩, fun y hy => ?_⟩
    · rw [List.mem_singleton] at hb
      subst hb
      exact fun e => h1.2 (e ▸ ha)
    · rw [List.mem_append, List.mem_singleton] at hy
      rcases hy with hy | rfl
      · exact ih.2 y hy
      · exact h1.1
theorem wayB_len {s : Int} {xs ys : List Int} (h : wayB s xs ys = true) : (ys.length : Int) ≤ s := by
  unfold wayB at h
  rw [Bool.and_eq_true] at h
  have h0 := (tourB_true.1 h.1).1
  have hn := way_nodup (Nat.le_refl _) (wayK_true.1 h.2)
  rw [List.take_length] at hn
  obtain ⟨n, rfl⟩ := Int.eq_ofNat_of_zero_le (by omega : 0 ≤ s)
  have := nodup_le n ys hn.1 (fun y hy => by have := hn.2 y hy; omega)
  omega
theorem wayB_long {s : Int} {xs ys : List Int} (h : s < (ys.length : Int)) : wayB s xs ys = false := by
  rcases hq : wayB s xs ys with _ | _
  · rfl
  · have := wayB_len hq; omega
set_option maxHeartbeats 2000000 in
theorem specIsWay (s : Int) (sl : Value) (xs : List Int) (yv : Value) (ys : List Int) (w : World) (h : Rd w sl xs) (h2 : Rd w yv ys) :
    Calls Try.prog 22 #[.agg #[.int .i64 s, sl], yv] w fun e w' => e = .returned (.bool (wayB s xs ys)) ∧ Below w.heap.size w w' := by
  have HR := Lib.hid h
  obtain ⟨A, c, rfl, -, -, -⟩ := h
  obtain ⟨B, d, rfl, hl2, hm2, hc2⟩ := h2
  unfold maxLen at hm2
  have HC := Lib.hid hc2
  clear hc2
  rcases q0 : tourB s xs with _ | _
  case false =>
    go_enter Try.func22, Try.ntmps22
    go_wp2_with fail
    have b0 := below_alloc1 w (.cells #[.int .i64 s, .slice A xs.length c] 27)
    have x0 := TBox.new w s (.slice A xs.length c) 27
    generalize w.alloc (.cells #[.int .i64 s, .slice A xs.length c] 27) = w0 at *
    have HX0 := Lib.hid x0
    have HB0 := Lib.hid b0
    clear x0 b0
    have y0_0 := HX0.out.1
    have y1_0 := HX0.out.2
    go_wp2_with fail
    refine (specTourOk s _ xs _ (HR.out.below HB0.out)).mono ?_
    rintro e w1 ⟨rfl, hb⟩
    have HX1 := Lib.hid (HX0.out.below hb)
    have HB1 := Lib.hid (Below.then HB0.out hb)
    clear hb HX0 HB0 y0_0 y1_0
    have y0_1 := HX1.out.1
    have y1_1 := HX1.out.2
    rw [q0]
    go_wp2
    go_ret
    exact ⟨ret_bool (by first | (simp [wayB, q0]; done) | exact (wayB_long (of_decide_eq_true q1)).symm), HB1.out⟩
  have hs := (tourB_true.1 q0).1
  have hsl := (tourB_true.1 q0).2.1
  rcases q1 : decide (s < (ys.length : Int)) with _ | _
  case true =>
    go_enter Try.func22, Try.ntmps22
    go_wp2_with fail
    have b0 := below_alloc1 w (.cells #[.int .i64 s, .slice A xs.length c] 27)
    have x0 := TBox.new w s (.slice A xs.length c) 27
    generalize w.alloc (.cells #[.int .i64 s, .slice A xs.length c] 27) = w0 at *
    have HX0 := Lib.hid x0
    have HB0 := Lib.hid b0
    clear x0 b0
    have y0_0 := HX0.out.1
    have y1_0 := HX0.out.2
    go_wp2_with fail
    refine (specTourOk s _ xs _ (HR.out.below HB0.out)).mono ?_
    rintro e w1 ⟨rfl, hb⟩
    have HX1 := Lib.hid (HX0.out.below hb)
    have HB1 := Lib.hid (Below.then HB0.out hb)
    clear hb HX0 HB0 y0_0 y1_0
    have y0_1 := HX1.out.1
    have y1_1 := HX1.out.2
    rw [q0]
    go_wp2
    go_ret
    exact ⟨ret_bool (by first | (simp [wayB, q0]; done) | exact (wayB_long (of_decide_eq_true q1)).symm), HB1.out⟩
  go_enter Try.func22, Try.ntmps22
  go_wp2_with fail
  have b0 := below_alloc1 w (.cells #[.int .i64 s, .slice A xs.length c] 27)
  have x0 := TBox.new w s (.slice A xs.length c) 27
  generalize w.alloc (.cells #[.int .i64 s, .slice A xs.length c] 27) = w0 at *
  have HX0 := Lib.hid x0
  have HB0 := Lib.hid b0
  clear x0 b0
  have y0_0 := HX0.out.1
  have y1_0 := HX0.out.2
  go_wp2_with fail
  refine (specTourOk s _ xs _ (HR.out.below HB0.out)).mono ?_
  rintro e w1 ⟨rfl, hb⟩
  have HX1 := Lib.hid (HX0.out.below hb)
  have HB1 := Lib.hid (Below.then HB0.out hb)
  clear hb HX0 HB0 y0_0 y1_0
  have y0_1 := HX1.out.1
  have y1_1 := HX1.out.2
  rw [q0]
  have hle := of_decide_eq_false q1
  generalize hn : ys.length = n at *
  have HN := Lib.hid hn
  clear hn q1
  go_wp2
  go_loopw [5, 20] (fun u i wr => ∃ k S : Nat, k ≤ n ∧ i = .int .i64 k ∧ u = .int .i64 S ∧ Hid (∀ j, j < k → wayAt s xs ys j = true) ∧ Hid (∀ m : Nat, S.testBit m = containsI (ys.take k) m) ∧ S < 256 ∧ Below w.heap.size w wr ∧ TBox wr w.heap.size s (.slice A xs.length c)) (fun _ i _ => n - (intOf i).toNat)
  case atStart => exact ⟨0, 0, by omega, rfl, rfl, fun _ h => absurd h (by omega), fun m => by simp [containsI], by omega, HB1.out, HX1.out⟩
  case round =>
    obtain ⟨k, S, hk, rfl, rfl, HP, HS, hS, hb, hx⟩ := hrel
    have HB2 := Lib.hid hb
    have HX2 := Lib.hid hx
    have y0_0 := hx.1
    have y1_0 := hx.2
    clear hx hb HB1 HX1 y0_1 y1_1
    by_cases hlt : k < n
    · obtain ⟨g, off, rfl, hg, hy⟩ := HC.out (by omega)
      have hyk := (HB2.out.cell (by exact hg)).trans (hy k hlt)
      have hat : wayAt s xs ys k = (inB (ys.getD k 0) 0 (s - 1) && (!(containsI (ys.take k) (ys.getD k 0)) && (k == 0 || bitI (xs.getD (ys.getD (k - 1) 0).toNat 0) (ys.getD k 0).toNat))) := rfl
      have HA := Lib.hid hat
      have htk : Hid (ys.take (k + 1) = ys.take k ++ [ys.getD k 0]) := by
        unfold Hid
        rw [List.take_succ_eq_append_getElem (by rw [HN.out]; exact hlt)]; simp [show k < ys.length by rw [HN.out]; exact hlt]
      have k1 := quiet_below (w := wr) (fun W hW => of_same (l01In_any (ys.getD k 0) 0 (s - 1) W))
      have k3 := fun h1 h2 h3 h4 => quiet_below (w := wr) (fun W hW => l02Beats_any s (.slice A xs.length c) xs (ys.getD (k - 1) 0) (ys.getD k 0) W ((HR.out.below HB2.out).below hW) h1 h2 h3 h4)
      clear hat
      have FALSE := Lib.hid (fun (hq : wayAt s xs ys k = false) => show wayB s xs ys = false by rw [wayB, wayK_no (by rw [HN.out]; exact hlt) hq, Bool.and_false])
      have NEXT := Lib.hid (fun (hq : wayAt s xs ys k = true) => show ∀ j, j < k + 1 → wayAt s xs ys j = true from fun j hj => by
        by_cases hjk : j < k
        · exact HP.out j hjk
        · obtain rfl : j = k := by omega
          exact hq)
      have SET := Lib.hid (fun (a : Nat) (ha : a < 8) (hy : ys.getD k 0 = a) (hc : S.testBit a = false) => show (∀ m : Nat, (S + 2 ^ a).testBit m = containsI (ys.take (k + 1)) m) ∧ S + 2 ^ a < 256 from by
        have hS2 : S < 2 ^ 62 := Nat.lt_trans hS (by decide)
        refine ⟨fun m => ?_, ?_⟩
        · rw [testBit_add hS2 (by omega) hc, HS.out, htk.out, hy]
          unfold containsI
          have e : (a = m) ↔ ((m : Int) = (a : Int)) := by omega
          rw [Bool.eq_iff_iff]
          simp only [Bool.or_eq_true, decide_eq_true_eq, List.mem_append, List.mem_singleton, e]
        · rw [add_or hS2 (by omega) hc]
          exact Nat.or_lt_two_pow (n := 8) hS (Nat.pow_lt_pow_right (by decide) ha))
      rcases Nat.eq_zero_or_pos k with rfl | hk0
      · clear k3 hy
        rw [Nat.add_zero] at hyk
        generalize ys.getD 0 0 = y at *
        rcases q1 : inB y 0 (s - 1) with _ | _
        · rw [q1] at k1
          go_wp2_with fail
          have y0_q := cell_regrown y0_0
          have y1_q := cell_regrown y1_0
          clear y0_0 y1_0
          refine wp_region_below (by kernel_rfl) (by kernel_rfl) ?_
          repeat (go_big_quiet_step (first | (with_reducible exact k1 _ _)))
          refine wpQuiet_nil ?_
          intro wq hbq0
          have hbq := Lib.hid hbq0
          clear hbq0
          clear y0_q y1_q
          go_wp2
          go_ret
          exact ⟨ret_bool (FALSE.out (by rw [HA.out, q1]; rfl)).symm, Below.then HB2.out hbq.out⟩
        · rw [q1] at k1
          have hy1 := inB_true.1 q1
          obtain ⟨a, rfl⟩ := Int.eq_ofNat_of_zero_le hy1.1
          have hbit : S.testBit a = false := by rw [HS.out]; simp [containsI]
          have q2 := bit_test S a
          rw [hbit] at q2
          have hadd := add_shl S a (by omega) (by omega)
          go_wp2_with fail
          have y0_q := cell_regrown y0_0
          have y1_q := cell_regrown y1_0
          clear y0_0 y1_0
          refine wp_region_below (by kernel_rfl) (by kernel_rfl) ?_
          repeat (go_big_quiet_step (first | (with_reducible exact k1 _ _)))
          refine wpQuiet_nil ?_
          intro wq hbq0
          have hbq := Lib.hid hbq0
          clear hbq0
          clear y0_q y1_q
          go_wp2
          go_roundw
          case rel => exact ⟨0 + 1, S + 2 ^ a, by omega, by go_num, by first | exact congrArg _ hadd | go_num, NEXT.out (by rw [HA.out, q1]; simp [containsI]), (SET.out a (by omega) rfl hbit).1, (SET.out a (by omega) rfl hbit).2, Below.then HB2.out hbq.out, HX2.out.below hbq.out⟩
          case measure => simp [intOf]; omega
      · obtain ⟨m, rfl⟩ : ∃ m, k = m + 1 := ⟨k - 1, by omega⟩
        have hym := (HB2.out.cell (by exact hg)).trans (hy m (by omega))
        have cm := cell_regrown hym
        have hpm := HP.out m (by omega)
        simp only [Nat.add_sub_cancel] at k3 HA
        clear hy hym
        have hy' := (wayAt_parts hpm).1
        clear hpm
        generalize ys.getD (m + 1) 0 = y at *
        generalize ys.getD m 0 = y' at *
        rcases q1 : inB y 0 (s - 1) with _ | _
        · rw [q1] at k1
          go_wp2_with fail
          have y0_q := cell_regrown y0_0
          have y1_q := cell_regrown y1_0
          clear y0_0 y1_0
          refine wp_region_below (by kernel_rfl) (by kernel_rfl) ?_
          repeat (go_big_quiet_step (first | (with_reducible exact k1 _ _)))
          refine wpQuiet_nil ?_
          intro wq hbq0
          have hbq := Lib.hid hbq0
          clear hbq0
          clear y0_q y1_q
          go_wp2
          go_ret
          exact ⟨ret_bool (FALSE.out (by rw [HA.out, q1]; rfl)).symm, Below.then HB2.out hbq.out⟩
        · rw [q1] at k1
          have hy1 := inB_true.1 q1
          have k4 := k3 (by omega) (by omega) (by omega) (by omega)
          clear k3
          obtain ⟨a, rfl⟩ := Int.eq_ofNat_of_zero_le hy1.1
          have q2 := bit_test S a
          have HC2 := Lib.hid (HS.out a)
          rw [show ((a : Int)).toNat = a from rfl] at k4 HA
          rcases hbit : S.testBit a with _ | _
          · rw [hbit] at q2
            have hadd := add_shl S a (by omega) (by omega)
            rcases q3 : bitI (xs.getD y'.toNat 0) a with _ | _
            · rw [q3] at k4
              go_wp2_with fail
              have y0_q := cell_regrown y0_0
              have y1_q := cell_regrown y1_0
              clear y0_0 y1_0
              refine wp_region_below (by kernel_rfl) (by kernel_rfl) ?_
              repeat (go_big_quiet_step (first | (with_reducible exact k1 _ _) | (with_reducible exact k4 _ _)))
              refine wpQuiet_nil ?_
              intro wq hbq0
              have hbq := Lib.hid hbq0
              clear hbq0
              clear y0_q y1_q
              go_wp2
              go_ret
              exact ⟨ret_bool (FALSE.out (by rw [HA.out, q1, ← HC2.out, hbit, q3]; rfl)).symm, Below.then HB2.out hbq.out⟩
            · rw [q3] at k4
              go_wp2_with fail
              have y0_q := cell_regrown y0_0
              have y1_q := cell_regrown y1_0
              clear y0_0 y1_0
              refine wp_region_below (by kernel_rfl) (by kernel_rfl) ?_
              repeat (go_big_quiet_step (first | (with_reducible exact k1 _ _) | (with_reducible exact k4 _ _)))
              refine wpQuiet_nil ?_
              intro wq hbq0
              have hbq := Lib.hid hbq0
              clear hbq0
              clear y0_q y1_q
              go_wp2
              go_roundw
              case rel => exact ⟨m + 1 + 1, S + 2 ^ a, by omega, by go_num, by first | exact congrArg _ hadd | go_num, NEXT.out (by rw [HA.out, q1, ← HC2.out, hbit, q3]; simp), (SET.out a (by omega) rfl hbit).1, (SET.out a (by omega) rfl hbit).2, Below.then HB2.out hbq.out, HX2.out.below hbq.out⟩
              case measure => simp [intOf]; omega
          · rw [hbit] at q2
            go_wp2_with fail
            have y0_q := cell_regrown y0_0
            have y1_q := cell_regrown y1_0
            clear y0_0 y1_0
            refine wp_region_below (by kernel_rfl) (by kernel_rfl) ?_
            repeat (go_big_quiet_step (first | (with_reducible exact k1 _ _)))
            refine wpQuiet_nil ?_
            intro wq hbq0
            have hbq := Lib.hid hbq0
            clear hbq0
            clear y0_q y1_q
            go_wp2
            go_ret
            exact ⟨ret_bool (FALSE.out (by rw [HA.out, q1, ← HC2.out, hbit]; rfl)).symm, Below.then HB2.out hbq.out⟩
    · obtain rfl : k = n := by omega
      go_wp2
      go_ret
      refine ⟨ret_bool ?_, HB2.out⟩
      rw [wayB, q0, HN.out, wayK_true.2 HP.out]; rfl
end Go.Proofs.Ytoohpflomlhakaa
