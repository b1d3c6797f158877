/- FnExactCountSymmetries: spec.CountSymmetries. -/
import Derived.Test.YtceeplhkokajhabCSym
import Derived.Test.YtceeplhkokajhabNames
import Derived.Test.YtceeplhkokajhabPerm
import Derived.Test.YtceeplhkokajhabPerm2
import Derived.Test.YtceeplhkokajhabRen2
namespace Go.Proofs.Ytceeplhkokajhab
open Go.RowKit Go.Sort
set_option maxRecDepth 100000
theorem names_len (n : Nat) : (namesL n).length = factN n := by simp [namesL]
theorem names_at {n k : Nat} (h : k < factN n) : (namesL n).take (k + 1) = (namesL n).take k ++ [nameAt n k (turnN n)] := by
  rw [List.take_succ_eq_append_getElem (by rw [names_len]; exact h)]
  simp [namesL]
theorem names_mem {n k : Nat} (hn : n ≤ 6) (h : k < factN n) : nameAt n k (turnN n) ∈ ordL n := by
  rw [← (names_perm hn).mem_iff]
  exact List.mem_map.2 ⟨k, List.mem_range.2 h, rfl⟩
theorem cnt_perm (xs : List Int) {n : Nat} (hn : n ≤ 6) : cntL xs (namesL n) = cntL xs (ordL n) := ((names_perm hn).filter _).length_eq
theorem fact_pos (n : Nat) : 0 < factN n := by
  induction n with
  | zero => decide
  | succ n ih => exact Nat.mul_pos ih (Nat.succ_pos n)
set_option maxHeartbeats 4000000 in
theorem specCSym (s : Int) (sl : Value) (xs : List Int) (w : World) (h : Rd w sl xs) :
    Calls Try.prog 9 #[.agg #[.int .i64 s, sl]] w fun e w' => e = .returned (.int .i64 (symN s xs)) ∧ Below w.heap.size w w' := by
  have HR := Lib.hid h
  obtain ⟨A, c, rfl, -, hcm, -⟩ := h
  unfold maxLen at hcm
  rcases q0 : tourB s xs with _ | _
  · have e0 : symN s xs = 0 := by simp [symN, symB6, q0]
    rw [e0]
    go_enter Try.func9, Try.ntmps9
    go_wp2_with fail
    have b0 := below_alloc1 w (.cells #[.int .i64 s, .slice A xs.length c] 27)
    have x0 := TBox.new w s (.slice A xs.length c) 27
    generalize w.alloc (.cells #[.int .i64 s, .slice A xs.length c] 27) = w0 at *
    have HX0 := Lib.hid x0
    have HB0 := Lib.hid b0
    clear x0 b0
    have y0_0 := HX0.out.1
    have y1_0 := HX0.out.2
    go_wp2_with fail
    refine (specTourOk s _ xs _ (HR.out.below HB0.out)).mono ?_
    rintro e w1 ⟨rfl, hb⟩
    have HX1 := Lib.hid (HX0.out.below hb)
    have HB1 := Lib.hid (Below.then HB0.out hb)
    clear hb HX0 HB0 y0_0 y1_0
    have y0_1 := HX1.out.1
    have y1_1 := HX1.out.2
    rw [q0]
    go_wp2
    go_ret
    exact ⟨rfl, HB1.out⟩
  · have hp := tourB_true.1 q0
    have hs := hp.1
    have hsl := hp.2.1
    have HP := Lib.hid hp
    clear hp
    by_cases h6 : s ≤ 6
    · have HE : Hid (symN s xs = (cntL xs (ordL xs.length) : Int)) := by unfold Hid; simp [symN, symB6, q0, h6]
      generalize hln : xs.length = n at *
      obtain rfl : s = (n : Int) := by omega
      have HL := Lib.hid hln
      clear hln hsl
      have h6n : n ≤ 6 := by omega
      have h6b : decide ((6 : Int) < (n : Int)) = false := decide_eq_false (by omega)
      clear h6
      have hfp := fact_pos n
      have hf7 := fact_le n h6n
      have hfld : ∀ (Y : Option Addr) (q cy : Nat) (W : World), (Instr.field 27 (.agg #[.int .i64 n, .slice Y q cy]) 1).run Try.prog W = .ok (.slice Y q cy) W := fun _ _ _ _ => by kernel_rfl
      go_enter Try.func9, Try.ntmps9
      go_wp2_with fail
      have b0 := below_alloc1 w (.cells #[.int .i64 n, .slice A n c] 27)
      have x0 := TBox.new w n (.slice A n c) 27
      generalize w.alloc (.cells #[.int .i64 n, .slice A n c] 27) = w0 at *
      have HX0 := Lib.hid x0
      have HB0 := Lib.hid b0
      clear x0 b0
      have y0_0 := HX0.out.1
      have y1_0 := HX0.out.2
      go_wp2_with fail
      refine (specTourOk n _ xs _ (HR.out.below HB0.out)).mono ?_
      rintro e w1 ⟨rfl, hb⟩
      have HX1 := Lib.hid (HX0.out.below hb)
      have HB1 := Lib.hid (Below.then HB0.out hb)
      clear hb HX0 HB0 y0_0 y1_0
      have y0_1 := HX1.out.1
      have y1_1 := HX1.out.2
      rw [q0]
      go_wp2
      clear y0_1 y1_1
      go_loopw [3, 4] (fun m i wr => ∃ k : Nat, k ≤ factN n ∧ i = .int .i64 k ∧ m = .int .i64 (cntL xs ((namesL n).take k) : Nat) ∧ Hid (Below w.heap.size w wr) ∧ Hid (TBox wr w.heap.size n (.slice A n c))) (fun _ i _ => factN n - (intOf i).toNat)
      case atStart => exact ⟨0, by omega, rfl, rfl, HB1.out, HX1.out⟩
      case round =>
        obtain ⟨wo, rfl⟩ : ∃ x, x = wr := ⟨_, rfl⟩
        obtain ⟨k, hk, rfl, rfl, HB, HX⟩ := hrel
        have y0 := HX.out.1
        have y1 := HX.out.2
        by_cases hlt : k < factN n
        · have hmem := Lib.hid (perm_nI.2 (names_mem h6n hlt))
          have HS := Lib.hid (cnt_snoc xs ((namesL n).take k) (nameAt n k (turnN n)))
          have HT := Lib.hid (names_at hlt)
          have hcl := cnt_le xs ((namesL n).take k)
          have hcl2 : ((namesL n).take k).length ≤ 720 := by rw [List.length_take, names_len]; omega
          have hcl3 : cntL xs ((namesL n).take k) ≤ 720 := by omega
          clear hcl hcl2
          have BD := Lib.hid (show Below w.heap.size w wo.drew from HB.out.drew)
          have XD := Lib.hid (show TBox wo.drew w.heap.size n (.slice A n c) from HX.out)
          go_wp2_with (go_at_call 38; refine (l11Count_any n h6n (by omega) _).mono ?_; rintro e w1 ⟨rfl, rfl⟩)
          go_region_held3 (fun W => W.cell? ⟨w.heap.size, 0, none⟩ = some (.int .i64 n) ∧ W.cell? ⟨w.heap.size, 1, none⟩ = some (.slice A n c))
            (first | exact ⟨y0, y1⟩ | exact ⟨y0_3, y1_3⟩ | exact ⟨y0_4, y1_4⟩ | exact ⟨y0_5, y1_5⟩)
            (first
              | (go_at_call 41; refine (l11Names_any n h6n (by omega) k (by omega) wo.drew).mono ?_; rintro e w3 ⟨v3, rfl, ho3, hb3⟩; obtain ⟨NA, nc, rfl, -, -, -⟩ := ho3.form; have HX3 := Lib.hid (XD.out.below hb3); have y0_3 := HX3.out.1; have y1_3 := HX3.out.2; have HB3 := Lib.hid (Below.then BD.out hb3); have HO3 := Lib.hid ho3; clear ho3 hb3)
              | (go_at_call 40; refine (l02Rename_any n (.slice A n c) xs (nI (nameAt n k (turnN n))) _ w3 (HR.out.below HB3.out) HP.out HO3.out.rd (by rw [HL.out]; exact hmem.out)).mono ?_; rintro e w4 ⟨v4, rfl, ho4, hF4, hb4⟩; obtain ⟨Y, cy, rfl, hym, -, -⟩ := ho4.form; have HX4 := Lib.hid (HX3.out.below hb4); have y0_4 := HX4.out.1; have y1_4 := HX4.out.2; have HB4 := Lib.hid (Below.then HB3.out hb4); have HO4 := Lib.hid ho4; clear ho4 hF4 hb4)
              | (go_at_call 39; refine (of_same (l04Same_any _ (.slice A n c) (rnL xs (nI (nameAt n k (turnN n)))) xs w4 HO4.out.rd (HR.out.below HB4.out))).mono ?_; rintro e w5 ⟨rfl, hb5⟩; have HX5 := Lib.hid (HX4.out.below hb5); have y0_5 := HX5.out.1; have y1_5 := HX5.out.2; have HB5 := Lib.hid (Below.then HB4.out hb5); clear hb5))
          all_goals
            clear y0 y1 y0_3 y1_3 y0_4 y1_4 y0_5 y1_5
            have HDE : Hid (decide (rnL xs (nI (nameAt n k (turnN n))) = xs) = decide (xs = rnL xs (nI (nameAt n k (turnN n))))) := decide_eq_decide.2 ⟨Eq.symm, Eq.symm⟩
            rcases qd : decide (rnL xs (nI (nameAt n k (turnN n))) = xs) with _ | _
            · rw [HDE.out] at qd
              rw [qd] at HS
              go_wp2
              go_roundw
              case rel => exact ⟨k + 1, by omega, by go_num, by rw [HT.out, HS.out]; simp, HB5.out, HX5.out⟩
              case measure => simp [intOf]; omega
            · rw [HDE.out] at qd
              rw [qd] at HS
              go_wp2
              go_roundw
              case rel => exact ⟨k + 1, by omega, by go_num, by rw [HT.out, HS.out]; simp, HB5.out, HX5.out⟩
              case measure => simp [intOf]; omega
        · obtain rfl : k = factN n := by omega
          have HF : Hid ((namesL n).take (factN n) = namesL n) := List.take_of_length_le (by rw [names_len]; exact Nat.le_refl _)
          go_wp2_with (go_at_call 38; refine (l11Count_any n h6n (by omega) _).mono ?_; rintro e w1 ⟨rfl, rfl⟩)
          go_ret
          exact ⟨ret_int (by rw [HE.out, HF.out, cnt_perm xs h6n]), HB.out⟩
    · have e0 : symN s xs = 0 := by simp [symN, symB6, h6]
      rw [e0]
      have h7 : 7 ≤ s := by omega
      clear hsl
      have h7b : decide (6 < s) = true := decide_eq_true (by omega)
      go_enter Try.func9, Try.ntmps9
      go_wp2_with fail
      have b0 := below_alloc1 w (.cells #[.int .i64 s, .slice A xs.length c] 27)
      have x0 := TBox.new w s (.slice A xs.length c) 27
      generalize w.alloc (.cells #[.int .i64 s, .slice A xs.length c] 27) = w0 at *
      have HX0 := Lib.hid x0
      have HB0 := Lib.hid b0
      clear x0 b0
      have y0_0 := HX0.out.1
      have y1_0 := HX0.out.2
      go_wp2_with fail
      refine (specTourOk s _ xs _ (HR.out.below HB0.out)).mono ?_
      rintro e w1 ⟨rfl, hb⟩
      have HX1 := Lib.hid (HX0.out.below hb)
      have HB1 := Lib.hid (Below.then HB0.out hb)
      clear hb HX0 HB0 y0_0 y1_0
      have y0_1 := HX1.out.1
      have y1_1 := HX1.out.2
      rw [q0]
      go_wp2
      go_ret
      exact ⟨rfl, HB1.out⟩
end Go.Proofs.Ytceeplhkokajhab
