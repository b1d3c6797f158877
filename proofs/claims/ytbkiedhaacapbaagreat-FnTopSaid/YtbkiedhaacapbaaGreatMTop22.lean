/- Texts put together: KgC, SovC. -/
import Derived.Test.YtbkiedhaacapbaaGreatMTop09
import Derived.Test.YtbkiedhaacapbaaGreatMTop11
import Derived.Test.YtbkiedhaacapbaaGreatMTop01
namespace Go.Proofs.YtbkiedhaacapbaaGreat
open Go.RowKit Go.Sort
set_option maxRecDepth 100000
theorem kgS_step (xs : List Int) (k : Nat) : kgS xs (k + 1) = kgS xs k + if kingN xs k = true then 2 ^ k else 0 := rfl
set_option maxHeartbeats 2000000 in
theorem kings_any (n : Nat) (sl : Value) (xs : List Int) (w : World) (h : Rd w sl xs) (hp : tourP n xs) :
    Calls Tryz.prog 46 #[.agg #[.int .i64 n, sl]] w fun e w' => e = .returned (.int .i64 (kgS xs n : Nat)) ∧ Below w.heap.size w w' := by
  have HR := Lib.hid h
  have HP := Lib.hid hp
  have hs := hp.1
  have hln := tour_len hp
  have HLN := Lib.hid hln
  obtain ⟨A, c, rfl, -, hcm, -⟩ := h
  unfold maxLen at hcm
  rw [hln] at HR ⊢
  clear hln hp
  go_enter Tryz.func46, Tryz.ntmps46
  go_wp2_with fail
  have b0 := below_alloc1 w (.cells #[.int .i64 n, .slice A n c] 25)
  have x0 := TBox.new w n (.slice A n c) 25
  generalize w.alloc (.cells #[.int .i64 n, .slice A n c] 25) = w0 at *
  have HX0 := Lib.hid x0
  have HB0 := Lib.hid b0
  clear x0 b0
  have y0_0 := HX0.out.1
  have y1_0 := HX0.out.2
  go_wp2
  go_loopw [3, 7] (fun v i wr => ∃ (a : Nat), a ≤ n ∧ i = .int .i64 a ∧ v = .int .i64 (kgS xs a : Nat) ∧ Hid (TBox wr w.heap.size n (.slice A n c)) ∧ Hid (Below w.heap.size w wr)) (fun _ i _ => n - (intOf i).toNat)
  case atStart => exact ⟨0, by omega, rfl, rfl, HX0, HB0⟩
  case round =>
    obtain ⟨a, ha, rfl, rfl, HX, HBa⟩ := hrel
    clear HX0 HB0 y0_0 y1_0
    by_cases hlt : a < n
    · have y0 := HX.out.1
      have y1 := HX.out.2
      have HST := Lib.hid (kgS_step xs a)
      have HLT : Hid (kgS xs a < 2 ^ a) := kg_lt
      go_wp2_with fail
      refine (isKing_any n (.slice A n c) xs a _ (HR.out.below HBa.out) HP.out (by have := HLN.out; omega)).mono ?_
      rintro e w5 ⟨rfl, hb5⟩
      have HX5 := Lib.hid (HX.out.below hb5)
      have HB5 := Lib.hid (Below.then HBa.out hb5)
      clear hb5 HX HBa y0 y1
      rcases q : kingN xs a with _ | _
      · rw [q, if_neg (by decide), Nat.add_zero] at HST
        go_wp2
        go_roundw
        case rel => exact ⟨a + 1, by omega, by go_num, congrArg (fun z : Nat => Value.int .i64 (z : Int)) HST.out.symm, HX5, HB5⟩
        case measure => simp [intOf]; omega
      · rw [q, if_pos rfl] at HST
        have h256 : 2 ^ a ≤ 256 := Nat.pow_le_pow_right (n := 2) (j := 8) (by decide) (by omega)
        have HOR : Hid (kgS xs a ||| 2 ^ a = kgS xs (a + 1)) := Lib.hid (by
          have := Nat.two_pow_add_eq_or_of_lt HLT.out 1
          rw [Nat.mul_one] at this
          rw [HST.out, Nat.or_comm, ← this, Nat.add_comm])
        have hor := or_shl (kgS xs a) a (by have := HLT.out; omega) (by omega)
        clear HST h256
        generalize kgS xs a = S at *
        go_wp2
        go_roundw
        case rel => exact ⟨a + 1, by omega, by go_num, congrArg (fun z : Nat => Value.int .i64 (z : Int)) HOR.out, HX5, HB5⟩
        case measure => simp [intOf]; omega
    · obtain rfl : n = a := by omega
      go_wp2
      go_ret
      exact ⟨rfl, HBa.out⟩
set_option maxHeartbeats 1000000 in
theorem cKings (n : Nat) (sl : Value) (xs : List Int) (w : World) (h : Rd w sl xs) (hp : tourP n xs) :
    Calls Tryz.prog 19 #[.agg #[.int .i64 n, sl]] w fun e w' => e = .returned (.int .i64 (kgS xs n : Nat)) ∧ Below w.heap.size w w' := by
  have HR := Lib.hid h
  have HP := Lib.hid hp
  have q0 : tourB n xs = true := tourB_true.2 hp
  have hln := tour_len hp
  obtain ⟨A, c, rfl, -, hcm, -⟩ := h
  unfold maxLen at hcm
  rw [hln] at HR ⊢
  clear hp hln
  go_enter Tryz.func19, Tryz.ntmps19
  go_wp2_with fail
  have b0 := below_alloc1 w (.cells #[.int .i64 n, .slice A n c] 25)
  have x0 := TBox.new w n (.slice A n c) 25
  generalize w.alloc (.cells #[.int .i64 n, .slice A n c] 25) = w0 at *
  have HX0 := Lib.hid x0
  have HB0 := Lib.hid b0
  clear x0 b0
  have y0_0 := HX0.out.1
  have y1_0 := HX0.out.2
  go_wp2_with fail
  refine (implTourOk n _ xs _ (HR.out.below HB0.out)).mono ?_
  rintro e w1 ⟨rfl, hb⟩
  have HX1 := Lib.hid (HX0.out.below hb)
  have HB1 := Lib.hid (Below.then HB0.out hb)
  clear hb HX0 HB0 y0_0 y1_0
  have y0_1 := HX1.out.1
  have y1_1 := HX1.out.2
  rw [q0]
  go_wp2_with fail
  refine (kings_any n (.slice A n c) xs _ (HR.out.below HB1.out) HP.out).mono ?_
  rintro e w5 ⟨rfl, hb5⟩
  have HB5 := Lib.hid (Below.then HB1.out hb5)
  clear hb5
  go_wp2
  go_ret
  exact ⟨rfl, HB5.out⟩
end Go.Proofs.YtbkiedhaacapbaaGreat

namespace Go.Proofs.YtbkiedhaacapbaaGreat
open Go.RowKit Go.Sort
set_option maxRecDepth 100000
def svB (xs : List Int) (n : Nat) (x : Int) : Bool := decide (scN xs x.toNat = (n : Int) - 1)
def svI (xs : List Int) (n : Nat) : Int := findI (svB xs n) (idxL n)
/-- the sovereign's number, or -1 -/
theorem svI_facts {n : Nat} {xs : List Int} (hp : tourP n xs) : (∃ a : Nat, svI xs n = a ∧ svP xs n a) ∨ (svI xs n = -1 ∧ ∀ a, ¬ svP xs n a) := by
  unfold svI findI
  rcases h : (idxL n).findIdx? (svB xs n) with _ | k
  · right
    refine ⟨rfl, fun a ha => ?_⟩
    rw [List.findIdx?_eq_none_iff] at h
    have h1 := h (a : Int) (by unfold idxL; exact List.mem_map.2 ⟨a, by simpa using ha.1, rfl⟩)
    unfold svB at h1
    rw [decide_eq_false_iff_not, Int.toNat_natCast] at h1
    exact h1 ((sv_score hp ha.1).2 ha)
  · left
    rw [List.findIdx?_eq_some_iff_getElem] at h
    obtain ⟨hk, h1, -⟩ := h
    rw [idxL_len] at hk
    have e : (idxL n)[k]'(by rw [idxL_len]; exact hk) = (k : Int) := by unfold idxL; simp
    rw [e] at h1
    unfold svB at h1
    rw [decide_eq_true_eq, Int.toNat_natCast] at h1
    exact ⟨k, rfl, (sv_score hp hk).1 h1⟩
set_option maxHeartbeats 1000000 in
theorem sv1_any (n : Nat) (sl : Value) (xs : List Int) (hp : tourP n xs) (a gt : Nat) (W : World) (hr : Rd W sl xs) (ht : TBox W gt n sl) (ha : a < n) :
    Calls Tryz.prog 49 #[.int .i64 a, .pointer (some ⟨gt, 0, none⟩)] W fun e w' => e = .returned (.bool (svB xs n a)) ∧ Below W.heap.size W w' := by
  have k1 := quiet_below (w := W) (fun W' hW => score_any n sl xs a W' (hr.below hW) hp (by rw [tour_len hp]; exact ha))
  have hs := hp.1
  have hF : Hid (svB xs n a = decide (((popN 8 (winsN xs a) : Nat) : Int) = (n : Int) - 1)) := rfl
  rw [hF.out]
  have h8 := popN_le 8 (winsN xs a)
  generalize popN 8 (winsN xs a) = sa at *
  have hw : IntKind.i64.wrap ((n : Int) - 1) = (n : Int) - 1 := by rw [IntKind.wrap_i64]; omega
  have d1 := cell_regrown ht.1
  have d2 := cell_regrown ht.2
  clear hr ht hp
  go_enter Tryz.func49, Tryz.ntmps49
  go_wp2_with fail
  refine wp_region_below (by kernel_rfl) (by kernel_rfl) ?_
  repeat (go_big_quiet_step (first | (with_reducible exact k1 _ _)))
  refine wpQuiet_nil ?_
  intro wq hbq0
  have HBQ := Lib.hid hbq0
  clear hbq0 d1 d2 k1
  go_wp2
  go_ret
  exact ⟨ret_bool (by first | rfl | (rw [Bool.eq_iff_iff]; simp [hw]) | (rw [hw]; rw [Bool.eq_iff_iff]; simp)), HBQ.out⟩
theorem enters_sv1 : Enters 49 := fun _ _ => by kernel_rfl
set_option maxHeartbeats 1000000 in
theorem cSov (n : Nat) (sl : Value) (xs : List Int) (w : World) (h : Rd w sl xs) (hp : tourP n xs) :
    Calls Tryz.prog 20 #[.agg #[.int .i64 n, sl]] w fun e w' => e = .returned (.int .i64 (svI xs n)) ∧ Below w.heap.size w w' := by
  have HR := Lib.hid h
  have HP := Lib.hid hp
  have q0 : tourB n xs = true := tourB_true.2 hp
  have hln := tour_len hp
  have hs := hp.1
  obtain ⟨A, c, rfl, -, hcm, -⟩ := h
  unfold maxLen at hcm
  rw [hln] at HR ⊢
  clear hp hln
  go_enter Tryz.func20, Tryz.ntmps20
  go_wp2_with fail
  have b0 := below_alloc1 w (.cells #[.int .i64 n, .slice A n c] 25)
  have x0 := TBox.new w n (.slice A n c) 25
  generalize w.alloc (.cells #[.int .i64 n, .slice A n c] 25) = w0 at *
  have HX0 := Lib.hid x0
  have HB0 := Lib.hid b0
  clear x0 b0
  have y0_0 := HX0.out.1
  have y1_0 := HX0.out.2
  go_wp2_with fail
  refine (implTourOk n _ xs _ (HR.out.below HB0.out)).mono ?_
  rintro e w1 ⟨rfl, hb⟩
  have HX1 := Lib.hid (HX0.out.below hb)
  have HB1 := Lib.hid (Below.then HB0.out hb)
  clear hb HX0 HB0 y0_0 y1_0
  have y0_1 := HX1.out.1
  have y1_1 := HX1.out.2
  rw [q0]
  go_wp2_with fail
  refine (indices_any n (by omega) _ (by omega)).mono ?_
  rintro e w2 ⟨rfl, ho, hb2⟩
  have HX2 := Lib.hid (HX1.out.below hb2)
  have HB2 := Lib.hid (Below.then HB1.out hb2)
  have HO2 := Lib.hid ho.rd
  clear ho hb2 HX1 HB1 y0_1 y1_1
  go_wp2_with fail
  refine (indexFunc_any 49 #[.pointer (some ⟨w.heap.size, 0, none⟩)] enters_sv1 _ (idxL n) (svB xs n) w2 HO2.out (fun x hx W hW => by
    obtain ⟨a, ha, rfl⟩ := idxL_mem hx
    exact sv1_any n (.slice A n c) xs HP.out a w.heap.size W (HR.out.below (Below.then HB2.out hW)) (HX2.out.below hW) ha)).mono ?_
  rintro e w5 ⟨rfl, hb5⟩
  have HB5 := Lib.hid (Below.then HB2.out hb5)
  clear hb5
  go_wp2
  go_ret
  exact ⟨rfl, HB5.out⟩
end Go.Proofs.YtbkiedhaacapbaaGreat

