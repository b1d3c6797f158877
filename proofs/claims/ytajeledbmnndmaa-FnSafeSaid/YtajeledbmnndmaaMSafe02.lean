/- Texts put together: TourOk, TourOkS, Sets, Score, Beat, ScoreOf, Mem, King, KStep, Tail, Rep, Frame, Res, Lg, TourLw, LgL, AppR. -/
import Derived.Test.YtajeledbmnndmaaMSafe01
import Derived.StillTail
import Derived.Deep.Quiet
import Derived.Laws.CopyOwn
import Derived.Deep.RegionLaw
import Derived.ProofKit
import Derived.OpenShut
import Derived.ShutString
import Derived.ChangeOld
import Derived.Lib.SmallJoins
import Derived.Deep.Slices
import Derived.Deep.Fields
namespace Go.Proofs.Ytajeledbmnndmaa
open Go.RowKit Go.Sort

/-- what is asked of player a: no win over itself; against each b before it just one of the two wins -/
def okAt (xs : List Int) (a : Nat) : Prop := bitI (xs.getD a 0) a = false ∧ ∀ b, b < a → bitI (xs.getD a 0) b ≠ bitI (xs.getD b 0) a
def tourP (s : Int) (xs : List Int) : Prop := (1 ≤ s ∧ s ≤ 8) ∧ (xs.length : Int) = s ∧ (∀ x ∈ xs, 0 ≤ x ∧ x ≤ 2 ^ s.toNat - 1) ∧ ∀ a, a < xs.length → okAt xs a
noncomputable def tourB (s : Int) (xs : List Int) : Bool := @decide (tourP s xs) (Classical.propDecidable _)
theorem tourB_true {s : Int} {xs : List Int} : tourB s xs = true ↔ tourP s xs := by unfold tourB; simp
theorem tourB_false {s : Int} {xs : List Int} : tourB s xs = false ↔ ¬ tourP s xs := by rw [← tourB_true]; simp

theorem shl_i64 (s : Int) (h : 0 ≤ s ∧ s ≤ 61) : IntKind.i64.wrap (1 * 2 ^ s.toNat) = 2 ^ s.toNat := by
  rw [i64_shl_one _ (by omega)]; simp
theorem pow_small (s : Int) (h : 0 ≤ s ∧ s ≤ 8) : (1 : Int) ≤ 2 ^ s.toNat ∧ (2 : Int) ^ s.toNat ≤ 256 := by
  have h1 : 2 ^ s.toNat ≤ 2 ^ 8 := Nat.pow_le_pow_right (by decide) (by omega)
  have h2 : 0 < 2 ^ s.toNat := Nat.two_pow_pos _
  have h3 : ((2 : Int) ^ s.toNat) = ((2 ^ s.toNat : Nat) : Int) := by simp
  rw [h3]
  rw [show (2 : Nat) ^ 8 = 256 from rfl] at h1
  omega

theorem ok_hi (n : Nat) (h : n ≤ 8) : wrap64 (wrap64 (2 ^ n) - 1) = 2 ^ n - 1 := by
  have h1 : 2 ^ n ≤ 2 ^ 8 := Nat.pow_le_pow_right (by decide) h
  have h3 : ((2 : Int) ^ n) = ((2 ^ n : Nat) : Int) := by simp
  rw [h3]
  rw [show (2 : Nat) ^ 8 = 256 from rfl] at h1
  have h2 : 0 < 2 ^ n := Nat.two_pow_pos _
  generalize 2 ^ n = p at *
  rw [IntWalk.wrap64_in (p : Int) (by omega), IntWalk.wrap64_in _ (by omega)]
set_option maxHeartbeats 2000000 in
theorem implTourOk (s : Int) (sl : Value) (xs : List Int) (w : World) (h : Rd w sl xs) :
    Calls Try.prog 72 #[.agg #[.int .i64 s, sl]] w fun e w' => e = .returned (.bool (tourB s xs)) ∧ Below w.heap.size w w' := by
  have HR := Lib.hid h
  obtain ⟨A, c, rfl, hl1, hm1, hc1⟩ := h
  clear hc1
  unfold maxLen at hm1
  rcases hS : inB s 1 8 with _ | _
  · go_enter Try.func72, Try.ntmps72
    go_wp2_with fail
    have b0 := below_alloc1 w (.cells #[.int .i64 s, .slice A xs.length c] 28)
    have x0 := TBox.new w s (.slice A xs.length c) 28
    generalize w.alloc (.cells #[.int .i64 s, .slice A xs.length c] 28) = W at *
    have k1 := quiet_below (w := W) (fun W _ => of_same (within_any s 1 8 W))
    have y0 := cell_regrown x0.1
    have y1 := cell_regrown x0.2
    have HB := Lib.hid b0
    clear x0 b0
    refine wp_region_below (by kernel_rfl) (by kernel_rfl) ?_
    repeat (go_big_quiet_step (first | (with_reducible exact k1 _ _)))
    refine wpQuiet_nil ?_
    intro w1 hb1
    have HB1 := Lib.hid (Below.then HB.out hb1)
    clear hb1 k1 y0 y1 HB
    go_wp2
    go_ret
    refine ⟨ret_bool (tourB_false.2 fun hp => ?_).symm, HB1.out⟩
    have := inB_false.1 hS
    exact this hp.1
  · have hs := inB_true.1 hS
    generalize hn : xs.length = n at *
    have HN := Lib.hid hn
    clear hn
    by_cases hl : (n : Int) = s
    · subst hl
      have hne : ((n : Int) != (n : Int)) = false := by simp
      have HV := Lib.hid (ok_hi n (by omega))
      rcases hA : allB xs 0 (wrap64 (wrap64 (2 ^ n) - 1)) with _ | _
      all_goals
        go_enter Try.func72, Try.ntmps72
        go_wp2_with fail
        have b0 := below_alloc1 w (.cells #[.int .i64 n, .slice A n c] 28)
        have x0 := TBox.new w n (.slice A n c) 28
        generalize w.alloc (.cells #[.int .i64 n, .slice A n c] 28) = W at *
        have k1 := quiet_below (w := W) (fun W _ => of_same (within_any n 1 8 W))
        rw [hS] at k1
        have k2 := quiet_below (w := W) (fun W' hb => allWithin_any (.slice A n c) xs 0 (wrap64 (wrap64 (2 ^ n) - 1)) W' ((HR.out.below b0).below hb))
        rw [hA] at k2
        have y0 := cell_regrown x0.1
        have y1 := cell_regrown x0.2
        have HB := Lib.hid b0
        have HX := Lib.hid x0
        clear x0 b0
        refine wp_region_below (by kernel_rfl) (by kernel_rfl) ?_
        repeat (go_big_quiet_step (first | (with_reducible exact k1 _ _) | (with_reducible exact k2 _ _)))
        refine wpQuiet_nil ?_
        intro w1 hb1
        have HX1 := Lib.hid (HX.out.below hb1)
        have HB1 := Lib.hid (Below.then HB.out hb1)
        clear hb1 k1 y0 y1 HB k2 HX
        have y0 := HX1.out.1
        have y1 := HX1.out.2
      · go_wp2
        go_ret
        refine ⟨ret_bool (tourB_false.2 fun hp => ?_).symm, HB1.out⟩
        rw [HV.out] at hA
        have := hp.2.2.1
        simp [allB] at hA
        obtain ⟨x, hx, hb⟩ := hA
        exact inB_false.1 hb (this x hx)
      · go_wp2
        have HA : Hid (∀ x ∈ xs, 0 ≤ x ∧ x ≤ 2 ^ n - 1) := by
          rw [HV.out] at hA
          simp [allB] at hA
          exact fun x hx => inB_true.1 (hA x hx)
        clear hA
        go_loopw [29] (fun i wr => ∃ a : Nat, a ≤ n ∧ i = .int .i64 a ∧ TBox wr w.heap.size n (.slice A n c) ∧ Below w.heap.size w wr ∧ Hid (∀ a', a' < a → okAt xs a')) (fun i _ => n - (intOf i).toNat)
        case atStart => exact ⟨0, Nat.zero_le _, rfl, HX1.out, HB1.out, fun a h => absurd h (by omega)⟩
        case round =>
          obtain ⟨a, ha, rfl, hx, hb, HP⟩ := hrel
          have HX := Lib.hid hx
          have HB := Lib.hid hb
          clear hx hb y0 y1 HX1 HB1
          by_cases hlt : a < n
          · go_wp2
            obtain ⟨wo, rfl⟩ : ∃ wo : World, wo = wr := ⟨_, rfl⟩
            go_loopw [33] (fun i wr => ∃ b : Nat, b ≤ a ∧ i = .int .i64 b ∧ TBox wr w.heap.size n (.slice A n c) ∧ Below w.heap.size w wr ∧ Hid (∀ b', b' < b → bitI (xs.getD a 0) b' ≠ bitI (xs.getD b' 0) a)) (fun i _ => a - (intOf i).toNat)
            case atStart => exact ⟨0, Nat.zero_le _, rfl, HX.out, HB.out, fun b h => absurd h (by omega)⟩
            case round =>
              obtain ⟨b, hb, rfl, hx, hbb, HQ⟩ := hrel
              have HX' := Lib.hid hx
              have HB' := Lib.hid hbb
              clear hx hbb HX HB
              by_cases hltb : b < a
              · go_wp2
                have y0 := cell_regrown HX'.out.1
                have y1 := cell_regrown HX'.out.2
                have kab : ∀ d os, Calls Try.prog 92 #[.agg #[.int .i64 n, .slice A n c], .int .i64 a, .int .i64 b] (grow (redrawn wr d) os) fun e w'' => e = .returned (.bool (bitI (xs.getD a 0) b)) ∧ ∃ p : Regrown, w'' = grow (redrawn wr p.d) p.os :=
                  quiet_below (fun W hW => beats_any n _ xs a b W ((HR.out.below HB'.out).below hW) (by omega) (by rw [HN.out]; omega) (by omega) (by omega))
                have kba : ∀ d os, Calls Try.prog 92 #[.agg #[.int .i64 n, .slice A n c], .int .i64 b, .int .i64 a] (grow (redrawn wr d) os) fun e w'' => e = .returned (.bool (bitI (xs.getD b 0) a)) ∧ ∃ p : Regrown, w'' = grow (redrawn wr p.d) p.os :=
                  quiet_below (fun W hW => beats_any n _ xs b a W ((HR.out.below HB'.out).below hW) (by omega) (by rw [HN.out]; omega) (by omega) (by omega))
                refine wp_region_below (by kernel_rfl) (by kernel_rfl) ?_
                repeat (go_big_quiet_step (first | (with_reducible exact kab _ _) | (with_reducible exact kba _ _)))
                refine wpQuiet_nil ?_
                intro w2 hb2
                have HX2 := Lib.hid (HX'.out.below hb2)
                have HB2 := Lib.hid (Below.then HB'.out hb2)
                clear hb2 y0 y1 kab kba HX' HB'
                go_wp2
                · have hq : (bitI (xs[a]?.getD 0) b == bitI (xs[b]?.getD 0) a) = true := by assumption
                  go_ret
                  refine ⟨ret_bool (tourB_false.2 fun hp => ?_).symm, HB2.out⟩
                  have := (hp.2.2.2 a (by rw [HN.out]; exact hlt)).2 b hltb
                  simp at hq this
                  exact this hq
                · have hq : (bitI (xs[a]?.getD 0) b == bitI (xs[b]?.getD 0) a) = false := by assumption
                  go_roundw
                  case rel =>
                    refine ⟨b + 1, by omega, by go_num, HX2.out, HB2.out, fun b' hb' => ?_⟩
                    by_cases h : b' < b
                    · exact HQ.out b' h
                    · obtain rfl : b' = b := by omega
                      simpa using hq
                  case measure => simp [intOf]; omega
              · have hge : ¬ ((b : Int) < (a : Int)) := by omega
                have y0 := HX'.out.1
                have y1 := HX'.out.2
                have kaa : ∀ W, Below wr.heap.size wr W → Calls Try.prog 92 #[.agg #[.int .i64 n, .slice A n c], .int .i64 a, .int .i64 a] W fun e w'' => e = .returned (.bool (bitI (xs.getD a 0) a)) ∧ Below W.heap.size W w'' :=
                  fun W hW => beats_any n _ xs a a W ((HR.out.below HB'.out).below hW) (by omega) (by rw [HN.out]; omega) (by omega) (by omega)
                have KAA := Lib.hid (kaa _ (Below.refl _ _))
                clear kaa
                go_wp2_with (go_at_call 92; refine KAA.out.mono ?_; rintro e w2 ⟨rfl, hb2⟩; have HX2 := Lib.hid (HX'.out.below hb2); have HB2 := Lib.hid (Below.then HB'.out hb2); clear hb2)
                · have hq : bitI (xs[a]?.getD 0) a = true := by assumption
                  go_ret
                  refine ⟨ret_bool (tourB_false.2 fun hp => ?_).symm, HB2.out⟩
                  have := (hp.2.2.2 a (by rw [HN.out]; exact hlt)).1
                  simp [hq] at this
                · have hq : bitI (xs[a]?.getD 0) a = false := by assumption
                  go_roundw
                  case rel =>
                    refine ⟨a + 1, by omega, by go_num, HX2.out, HB2.out, fun a' ha' => ?_⟩
                    by_cases h : a' < a
                    · exact HP.out a' h
                    · obtain rfl : a' = a := by omega
                      exact ⟨by simpa using hq, fun b' hb' => HQ.out b' (by omega)⟩
                  case measure => simp [intOf]; omega
          · obtain rfl : a = n := by omega
            go_wp2
            go_ret
            refine ⟨ret_bool (tourB_true.2 ⟨hs, by rw [HN.out], HA.out, by rw [HN.out]; exact HP.out⟩).symm, HB.out⟩
    · have hne : ((n : Int) != s) = true := by simpa using hl
      have HL := Lib.hid hl
      clear hl
      go_enter Try.func72, Try.ntmps72
      go_wp2_with fail
      have b0 := below_alloc1 w (.cells #[.int .i64 s, .slice A n c] 28)
      have x0 := TBox.new w s (.slice A n c) 28
      generalize w.alloc (.cells #[.int .i64 s, .slice A n c] 28) = W at *
      have k1 := quiet_below (w := W) (fun W _ => of_same (within_any s 1 8 W))
      have y0 := cell_regrown x0.1
      have y1 := cell_regrown x0.2
      have HB := Lib.hid b0
      clear x0 b0
      refine wp_region_below (by kernel_rfl) (by kernel_rfl) ?_
      repeat (go_big_quiet_step (first | (with_reducible exact k1 _ _)))
      refine wpQuiet_nil ?_
      intro w1 hb1
      have HB1 := Lib.hid (Below.then HB.out hb1)
      clear hb1 k1 y0 y1 HB
      go_wp2
      go_ret
      refine ⟨ret_bool (tourB_false.2 fun hp => ?_).symm, HB1.out⟩
      exact HL.out (by rw [← hp.2.1, HN.out])
end Go.Proofs.Ytajeledbmnndmaa

namespace Go.Proofs.Ytajeledbmnndmaa
open Go.RowKit Go.Sort

theorem bit_eq_walk (x y : Int) (b a : Nat) : (bits BinOp.and IntKind.i64 (x / 2 ^ b) 1 == bits BinOp.and IntKind.i64 (y / 2 ^ a) 1) = (bitI x b == bitI y a) := by
  rw [i64_and_one, i64_and_one, bitI, bitI, Bool.eq_iff_iff]
  simp only [beq_iff_eq, decide_eq_decide]
  omega

set_option maxHeartbeats 2000000 in
theorem specTourOk (s : Int) (sl : Value) (xs : List Int) (w : World) (h : Rd w sl xs) :
    Calls Try.prog 65 #[.agg #[.int .i64 s, sl]] w fun e w' => e = .returned (.bool (tourB s xs)) ∧ Below w.heap.size w w' := by
  have HR := Lib.hid h
  obtain ⟨A, c, rfl, hl1, hm1, hc1⟩ := h
  unfold maxLen at hm1
  have H3 := Lib.hid hc1
  clear hc1
  generalize hn : xs.length = n at *
  have HN := Lib.hid hn
  clear hn
  rcases hS : inB s 1 8 with _ | _
  · go_enter Try.func65, Try.ntmps65
    go_wp2_with (go_at_call 116; refine (l01In_any _ _ _ _).mono ?_; rintro e w1 ⟨rfl, rfl⟩)
    go_ret
    exact ⟨ret_bool (tourB_false.2 fun hp => inB_false.1 hS hp.1).symm, below_alloc1 _ _⟩
  · have hs := inB_true.1 hS
    by_cases hl : (n : Int) = s
    · subst hl
      have hne : ((n : Int) != (n : Int)) = false := by simp
      have HV := Lib.hid (ok_hi n (by omega))
      go_enter Try.func65, Try.ntmps65
      go_wp2_with (go_at_call 116; refine (l01In_any _ _ _ _).mono ?_; rintro e w1 ⟨rfl, rfl⟩)
      have b0 := below_alloc1 w (.cells #[.int .i64 n, .slice A n c] 28)
      have x0 := TBox.new w n (.slice A n c) 28
      generalize w.alloc (.cells #[.int .i64 n, .slice A n c] 28) = W at *
      have HX := Lib.hid x0
      have HB := Lib.hid b0
      clear x0 b0
      go_loopw [21] (fun i wr => ∃ (a q : Nat), a ≤ n ∧ i = .int .i64 a ∧ wr = W.drewN q ∧ Hid ((∀ a', a' < a → okAt xs a') ∧ ∀ a', a' < a → 0 ≤ xs.getD a' 0 ∧ xs.getD a' 0 ≤ 2 ^ n - 1)) (fun i _ => n - (intOf i).toNat)
      case atStart => exact ⟨0, 0, Nat.zero_le _, rfl, rfl, fun a h => absurd h (by omega), fun a h => absurd h (by omega)⟩
      case round =>
        obtain ⟨a, q, ha, rfl, rfl, HP⟩ := hrel
        by_cases hlt : a < n
        · obtain ⟨g, off, rfl, hg, hx⟩ := H3.out (by omega)
          have hx' : ∀ k, k < n → W.cell? ⟨g, off + k, none⟩ = some (.int .i64 (xs.getD k 0)) := fun k hk => (HB.out.cell (by exact hg)).trans (hx k hk)
          have hxa := hx' a hlt
          have HC := Lib.hid hx'
          clear hx hx'
          have y0 := HX.out.1
          have y1 := HX.out.2
          rcases hA : inB (xs[a]?.getD 0) 0 (wrap64 (wrap64 (2 ^ n) - 1)) with _ | _
          · go_wp2_with (go_at_call 116; refine (l01In_any _ _ _ _).mono ?_; rintro e w1 ⟨rfl, rfl⟩)
            go_ret
            refine ⟨ret_bool (tourB_false.2 fun hp => ?_).symm, below_drewN HB.out _⟩
            rw [HV.out] at hA
            refine inB_false.1 hA (hp.2.2.1 _ ?_)
            rw [List.getElem?_eq_getElem (by rw [HN.out]; exact hlt)]; exact List.getElem_mem _
          · rcases hB : bitI (xs[a]?.getD 0) a with _ | _
            · have hB' : (bits BinOp.and IntKind.i64 (xs[a]?.getD 0 / 2 ^ a) 1 == 1) = false := by rw [bit_walk]; exact hB
              go_wp2_with (go_at_call 116; refine (l01In_any _ _ _ _).mono ?_; rintro e w1 ⟨rfl, rfl⟩)
              go_loopw [5] (fun i wr => ∃ (b q : Nat), b ≤ a ∧ i = .int .i64 b ∧ wr = W.drewN q ∧ Hid (∀ b', b' < b → bitI (xs.getD a 0) b' ≠ bitI (xs.getD b' 0) a)) (fun i _ => a - (intOf i).toNat)
              case atStart => exact ⟨0, q, Nat.zero_le _, rfl, rfl, fun b h => absurd h (by omega)⟩
              case round =>
                obtain ⟨b, q', hb, rfl, rfl, HQ⟩ := hrel
                by_cases hltb : b < a
                · have hxb := HC.out b (by omega)
                  rcases hE : (bits BinOp.and IntKind.i64 (xs[a]?.getD 0 / 2 ^ b) 1 == bits BinOp.and IntKind.i64 (xs[b]?.getD 0 / 2 ^ a) 1) with _ | _
                  all_goals
                    go_wp2
                    go_quiet (fail)
                    go_wp2
                  · go_roundw
                    case rel =>
                      refine ⟨b + 1, _, by omega, by go_num, rfl, fun b' hb' => ?_⟩
                      by_cases h : b' < b
                      · exact HQ.out b' h
                      · obtain rfl : b' = b := by omega
                        rw [bit_eq_walk] at hE
                        simpa using hE
                    case measure => simp [intOf]; omega
                  · go_ret
                    refine ⟨ret_bool (tourB_false.2 fun hp => ?_).symm, below_drewN (below_drewN HB.out _) _⟩
                    have := (hp.2.2.2 a (by rw [HN.out]; exact hlt)).2 b hltb
                    rw [bit_eq_walk] at hE
                    simp at hE this
                    exact this hE
                · have hge : ¬ ((b : Int) < (a : Int)) := by omega
                  go_wp2
                  go_roundw
                  case rel =>
                    refine ⟨a + 1, _, by omega, by go_num, rfl, fun a' ha' => ?_, fun a' ha' => ?_⟩
                    · by_cases h : a' < a
                      · exact HP.out.1 a' h
                      · obtain rfl : a' = a := by omega
                        exact ⟨by simpa using hB, fun b' hb' => HQ.out b' (by omega)⟩
                    · by_cases h : a' < a
                      · exact HP.out.2 a' h
                      · obtain rfl : a' = a := by omega
                        rw [HV.out] at hA
                        simpa using inB_true.1 hA
                  case measure => simp [intOf]; omega
            · have hB' : (bits BinOp.and IntKind.i64 (xs[a]?.getD 0 / 2 ^ a) 1 == 1) = true := by rw [bit_walk]; exact hB
              go_wp2_with (go_at_call 116; refine (l01In_any _ _ _ _).mono ?_; rintro e w1 ⟨rfl, rfl⟩)
              go_ret
              refine ⟨ret_bool (tourB_false.2 fun hp => ?_).symm, below_drewN HB.out _⟩
              have := (hp.2.2.2 a (by rw [HN.out]; exact hlt)).1
              simp [hB] at this
        · obtain rfl : a = n := by omega
          go_wp2
          go_ret
          refine ⟨ret_bool (tourB_true.2 ⟨hs, by rw [HN.out], fun x hx => ?_, by rw [HN.out]; exact HP.out.1⟩).symm, below_drewN HB.out _⟩
          obtain ⟨k, hk, rfl⟩ := List.mem_iff_getElem.1 hx
          have := HP.out.2 k (by rw [← HN.out]; exact hk)
          simpa [hk] using this
    · have hne : ((n : Int) != s) = true := by simpa using hl
      have HL := Lib.hid hl
      clear hl
      go_enter Try.func65, Try.ntmps65
      go_wp2_with (go_at_call 116; refine (l01In_any _ _ _ _).mono ?_; rintro e w1 ⟨rfl, rfl⟩)
      go_ret
      exact ⟨ret_bool (tourB_false.2 fun hp => HL.out (by rw [← hp.2.1, HN.out])).symm, below_alloc1 _ _⟩
end Go.Proofs.Ytajeledbmnndmaa

namespace Go.Proofs.Ytajeledbmnndmaa
open Go.RowKit

/-- the set of the numbers below k with p -/
def setOf (p : Nat → Bool) : Nat → Nat
  | 0 => 0
  | k + 1 => setOf p k + if p k then 2 ^ k else 0
theorem setOf_lt (p : Nat → Bool) (k : Nat) : setOf p k < 2 ^ k := by
  induction k with
  | zero => simp [setOf]
  | succ k ih =>
    have := Nat.pow_succ (n := 2) (m := k)
    simp only [setOf]
    split <;> omega
theorem testBit_setOf (p : Nat → Bool) (k j : Nat) : (setOf p k).testBit j = (decide (j < k) && p j) := by
  induction k with
  | zero => simp [setOf]
  | succ k ih =>
    simp only [setOf]
    rcases h : p k with _ | _
    · simp only [Bool.false_eq_true, if_false, Nat.add_zero, ih]
      by_cases e : j = k
      · subst e; simp [h]
      · have : decide (j < k + 1) = decide (j < k) := by rw [decide_eq_decide]; omega
        rw [this]
    · simp only [if_true]
      rw [testBit_add_top _ _ _ (setOf_lt p k), ih]
      by_cases e : j = k
      · subst e; simp [h]
      · have : decide (j < k + 1) = decide (j < k) := by rw [decide_eq_decide]; omega
        rw [this]
        have : decide (k = j) = false := by simp; omega
        rw [this, Bool.or_false]
theorem setOf_eq {S k : Nat} {p : Nat → Bool} (h : ∀ j, S.testBit j = (decide (j < k) && p j)) : S = setOf p k := Nat.eq_of_testBit_eq fun j => by rw [h, testBit_setOf]
theorem setOf_congr {k : Nat} {p q : Nat → Bool} (h : ∀ j, j < k → p j = q j) : setOf p k = setOf q k := setOf_eq fun j => by
  rw [testBit_setOf]
  by_cases e : j < k
  · simp [h j e]
  · simp [e]
theorem testBit_full (n j : Nat) : (2 ^ n - 1).testBit j = decide (j < n) := Nat.testBit_two_pow_sub_one n j
theorem setOf_full {n : Nat} {p : Nat → Bool} (h : ∀ j, j < n → p j = true) : 2 ^ n - 1 = setOf p n := setOf_eq fun j => by
  rw [testBit_full]
  by_cases e : j < n
  · simp [e, h j e]
  · simp [e]
theorem pow_le {n : Nat} (h : n ≤ 8) : 2 ^ n ≤ 256 := Nat.le_trans (Nat.pow_le_pow_right (by decide) h) (by decide)
theorem setOf_small (p : Nat → Bool) {k : Nat} (h : k ≤ 8) : setOf p k < 256 := Nat.lt_of_lt_of_le (setOf_lt p k) (pow_le h)
theorem nodup_le : ∀ (n : Nat) (ys : List Int), ys.Nodup → (∀ y ∈ ys, 0 ≤ y ∧ y < n) → ys.length ≤ n := by
  intro n
  induction n with
  | zero =>
    intro ys _ h
    cases ys with
    | nil => simp
    | cons a l => have := h a (by simp); omega
  | succ n ih =>
    intro ys hn h
    have h1 := ih (ys.erase (n : Int)) (hn.erase _) (fun y hy => by
      have := (hn.mem_erase_iff).1 hy
      have h2 := h y this.2
      omega)
    by_cases hm : (n : Int) ∈ ys
    · rw [List.length_erase_of_mem hm] at h1; omega
    · rw [List.erase_of_not_mem hm] at h1; omega
theorem add_or {S a : Nat} (hS : S < 2 ^ 62) (ha : a ≤ 61) (h : S.testBit a = false) : S + 2 ^ a = S ||| 2 ^ a := by
  have hp : 2 ^ a ≤ 2 ^ 61 := Nat.pow_le_pow_right (by decide) ha
  have h1 : S < 2 ^ 64 := Nat.lt_trans hS (by decide)
  have h2 : 2 ^ a < 2 ^ 64 := Nat.lt_of_le_of_lt hp (by decide)
  have hb : (BitVec.ofNat 64 S) &&& (BitVec.ofNat 64 (2 ^ a)) = 0#64 := by
    apply BitVec.eq_of_toNat_eq
    rw [BitVec.toNat_and, BitVec.toNat_ofNat, BitVec.toNat_ofNat, Nat.mod_eq_of_lt h1, Nat.mod_eq_of_lt h2]
    apply Nat.eq_of_testBit_eq
    intro i
    rw [Nat.testBit_and, Nat.testBit_two_pow]
    by_cases e : a = i
    · subst e; simp [h]
    · simp [e]
  have := congrArg BitVec.toNat (BitVec.add_eq_or_of_and_eq_zero _ _ hb)
  rw [BitVec.toNat_add, BitVec.toNat_or, BitVec.toNat_ofNat, BitVec.toNat_ofNat, Nat.mod_eq_of_lt h1, Nat.mod_eq_of_lt h2, Nat.mod_eq_of_lt (by
    have e1 : (2 : Nat) ^ 62 = 4611686018427387904 := by decide
    have e2 : (2 : Nat) ^ 61 = 2305843009213693952 := by decide
    have e3 : (2 : Nat) ^ 64 = 18446744073709551616 := by decide
    omega)] at this
  exact this
/-- a new element -/
theorem testBit_add {S a : Nat} (hS : S < 2 ^ 62) (ha : a ≤ 61) (h : S.testBit a = false) (m : Nat) : (S + 2 ^ a).testBit m = (S.testBit m || decide (a = m)) := by
  rw [add_or hS ha h, Nat.testBit_or, Nat.testBit_two_pow]
theorem less_lt {S b n : Nat} (h : S < 2 ^ n) : less S b < 2 ^ n := lt_of_testBit fun m hm => by
  rw [testBit_less, Nat.testBit_lt_two_pow (Nat.lt_of_lt_of_le h (Nat.pow_le_pow_right (by decide) hm)), Bool.false_and]
/-- without an element -/
theorem sub_less {S a : Nat} (hS : S < 2 ^ 62) (ha : a ≤ 61) (h : S.testBit a = true) : S - 2 ^ a = less S (2 ^ a) := by
  have h1 := add_or (S := less S (2 ^ a)) (a := a) (less_lt hS) ha (by rw [testBit_less, Nat.testBit_two_pow]; simp)
  have h2 : less S (2 ^ a) ||| 2 ^ a = S := by
    apply Nat.eq_of_testBit_eq
    intro i
    rw [Nat.testBit_or, testBit_less, Nat.testBit_two_pow]
    by_cases e : a = i
    · subst e; simp [h]
    · simp [e]
  omega
theorem testBit_sub {S a : Nat} (hS : S < 2 ^ 62) (ha : a ≤ 61) (h : S.testBit a = true) (m : Nat) : (S - 2 ^ a).testBit m = (S.testBit m && !decide (a = m)) := by
  rw [sub_less hS ha h, testBit_less, Nat.testBit_two_pow]
theorem full_hi (n : Nat) (h : n ≤ 8) : wrap64 (wrap64 (2 ^ n) - 1) = 2 ^ n - 1 := by
  have h1 : 2 ^ n ≤ 2 ^ 8 := Nat.pow_le_pow_right (by decide) h
  have h3 : ((2 : Int) ^ n) = ((2 ^ n : Nat) : Int) := by simp
  rw [h3]
  rw [show (2 : Nat) ^ 8 = 256 from rfl] at h1
  have h2 : 0 < 2 ^ n := Nat.two_pow_pos _
  generalize 2 ^ n = p at *
  rw [IntWalk.wrap64_in (p : Int) (by omega), IntWalk.wrap64_in _ (by omega)]
theorem full_nat (n : Nat) (h : n ≤ 8) : wrap64 (wrap64 (2 ^ n) - 1) = ((2 ^ n - 1 : Nat) : Int) := by
  rw [full_hi n h, Int.natCast_sub Nat.one_le_two_pow]; simp
theorem shl_nat (a : Nat) (h : a ≤ 61) : wrap64 (2 ^ a) = ((2 ^ a : Nat) : Int) := by
  have h1 : 2 ^ a ≤ 2 ^ 61 := Nat.pow_le_pow_right (by decide) h
  rw [show (2 : Nat) ^ 61 = 2305843009213693952 from by decide] at h1
  have h2 : ((2 : Int) ^ a) = ((2 ^ a : Nat) : Int) := by simp
  rw [h2]
  generalize 2 ^ a = p at *
  rw [wrap64_nat _ (by omega)]
theorem pow_lt63 {a : Nat} (h : a ≤ 61) : 2 ^ a < 9223372036854775808 := by
  have h1 : 2 ^ a ≤ 2 ^ 61 := Nat.pow_le_pow_right (by decide) h
  rw [show (2 : Nat) ^ 61 = 2305843009213693952 from by decide] at h1
  omega
/-- 'S &^ (1<<a)' -/
theorem andNot_shl (S a : Nat) (hS : S < 4611686018427387904) (h : a ≤ 61) : bits .andNot .i64 (S : Int) (wrap64 (2 ^ a)) = ((less S (2 ^ a) : Nat) : Int) := by
  rw [shl_nat a h, i64_andNot_nat _ _ (by omega) (pow_lt63 h)]
/-- 'S | 1<<a' -/
theorem or_shl (S a : Nat) (hS : S < 4611686018427387904) (h : a ≤ 61) : bits .or .i64 (S : Int) (wrap64 (2 ^ a)) = ((S ||| 2 ^ a : Nat) : Int) := by
  rw [shl_nat a h, i64_or_nat _ _ (by omega) (pow_lt63 h)]
end Go.Proofs.Ytajeledbmnndmaa

namespace Go.Proofs.Ytajeledbmnndmaa
open Go.RowKit Go.Sort

/-- the number of binary digits 1 -/
def popN : Nat → Nat → Nat
  | 0, _ => 0
  | k + 1, n => n % 2 + popN k (n / 2)
theorem popN_zero (k : Nat) : popN k 0 = 0 := by
  induction k with
  | zero => rfl
  | succ k ih => simp [popN, ih]
theorem popN_le (k n : Nat) : popN k n ≤ k := by
  induction k generalizing n with
  | zero => simp [popN]
  | succ k ih =>
    have := ih (n / 2)
    simp only [popN]; omega
set_option maxHeartbeats 1000000 in
theorem l02Bits_any (x : Nat) (w : World) (h : x < 256) :
    Calls Try.prog 67 #[.int .i64 x] w fun e w' => e = .returned (.int .i64 (popN 8 x : Nat)) ∧ w = w' := by
  go_enter Try.func67, Try.ntmps67
  go_wp2
  go_loop [0, 3] (fun n t => ∃ j m k : Nat, j ≤ 8 ∧ n = .int .i64 m ∧ m < 2 ^ j ∧ t = .int .i64 k ∧ k ≤ 8 ∧ Hid (k + popN j m = popN 8 x)) (fun n _ => (intOf n).toNat)
  case atStart => exact ⟨8, x, 0, by omega, rfl, h, rfl, by omega, by simp [Hid]⟩
  case round =>
    obtain ⟨j, m, k, hj, rfl, hm, rfl, hk, HP⟩ := hrel
    by_cases h0 : 0 < m
    · obtain ⟨j, rfl⟩ : ∃ i, j = i + 1 := ⟨j - 1, by
        rcases j with _ | j
        · simp at hm; omega
        · omega⟩
      have hp := popN_le 8 x
      have hq : k + (m % 2 + popN j (m / 2)) = popN 8 x := HP.out
      clear HP
      have hand := i64_and_one (m : Int)
      have h2 : 2 ^ (j + 1) = 2 * 2 ^ j := by rw [Nat.pow_succ]; omega
      go_wp2
      go_round
      case rel => exact ⟨j, m / 2, k + m % 2, by omega, by first | go_num | (simp; omega), by omega, by first | go_num | (rw [hand]; go_num), by omega, by unfold Hid; omega⟩
      case measure => simp [intOf]; omega
    · obtain rfl : m = 0 := by omega
      have hq := HP.out
      rw [popN_zero] at hq
      go_wp2
      go_ret
      exact ⟨ret_int (by omega), rfl⟩
set_option maxHeartbeats 1000000 in
theorem ones64_any (x : Nat) (w : World) (h : x < 256) :
    Calls Try.prog 140 #[.int .u64 x] w fun e w' => e = .returned (.int .i64 (popN 8 x : Nat)) ∧ w = w' := by
  obtain ⟨n, rfl⟩ : ∃ n : Fin 256, n.val = x := ⟨⟨x, h⟩, rfl⟩
  go_enter Try.func140, Try.ntmps140
  go_wp2
  go_ret
  refine ⟨ret_int ?_, rfl⟩
  clear h
  revert n
  decide +kernel
set_option maxHeartbeats 400000 in
theorem ones_any (x : Nat) (w : World) (h : x < 256) :
    Calls Try.prog 111 #[.int .u64 x] w fun e w' => e = .returned (.int .i64 (popN 8 x : Nat)) ∧ w = w' := by
  go_enter Try.func111, Try.ntmps111
  go_wp2_with (go_at_call 140; refine (ones64_any _ _ h).mono ?_; rintro e w1 ⟨rfl, rfl⟩)
  go_ret
  exact ⟨rfl, rfl⟩
end Go.Proofs.Ytajeledbmnndmaa

namespace Go.Proofs.Ytajeledbmnndmaa
open Go.RowKit Go.Sort

noncomputable def beatB (s : Int) (xs : List Int) (a b : Int) : Bool := tourB s xs && inB a 0 (s - 1) && inB b 0 (s - 1) && bitI (xs.getD a.toNat 0) b.toNat

set_option maxHeartbeats 1000000 in
theorem implDoesBeat (s : Int) (sl : Value) (xs : List Int) (a b : Int) (w : World) (h : Rd w sl xs) :
    Calls Try.prog 36 #[.agg #[.int .i64 s, sl], .int .i64 a, .int .i64 b] w fun e w' => e = .returned (.bool (beatB s xs a b)) ∧ Below w.heap.size w w' := by
  have HR := Lib.hid h
  obtain ⟨A, c, rfl, -, -, -⟩ := h
  rcases hT : tourB s xs with _ | _
  · go_enter Try.func36, Try.ntmps36
    go_wp2_with fail
    have b0 := below_alloc1 w (.cells #[.int .i64 s, .slice A xs.length c] 28)
    have x0 := TBox.new w s (.slice A xs.length c) 28
    generalize w.alloc (.cells #[.int .i64 s, .slice A xs.length c] 28) = w0 at *
    have HX0 := Lib.hid x0
    have HB0 := Lib.hid b0
    clear x0 b0
    have y0_0 := HX0.out.1
    have y1_0 := HX0.out.2
    go_wp2_with fail
    refine (implTourOk s _ xs _ (HR.out.below HB0.out)).mono ?_
    rintro e w1 ⟨rfl, hb⟩
    have HX1 := Lib.hid (HX0.out.below hb)
    have HB1 := Lib.hid (Below.then HB0.out hb)
    clear hb HX0 HB0 y0_0 y1_0
    have y0_1 := HX1.out.1
    have y1_1 := HX1.out.2
    rw [hT]
    go_wp2
    go_ret
    exact ⟨ret_bool (by simp [beatB, hT]), HB1.out⟩
  · have hp := tourB_true.1 hT
    have hs := hp.1
    have hl := hp.2.1
    rcases hA : inB a 0 (s - 1) with _ | _
    · go_enter Try.func36, Try.ntmps36
      go_wp2_with fail
      have b0 := below_alloc1 w (.cells #[.int .i64 s, .slice A xs.length c] 28)
      have x0 := TBox.new w s (.slice A xs.length c) 28
      generalize w.alloc (.cells #[.int .i64 s, .slice A xs.length c] 28) = w0 at *
      have HX0 := Lib.hid x0
      have HB0 := Lib.hid b0
      clear x0 b0
      have y0_0 := HX0.out.1
      have y1_0 := HX0.out.2
      go_wp2_with fail
      refine (implTourOk s _ xs _ (HR.out.below HB0.out)).mono ?_
      rintro e w1 ⟨rfl, hb⟩
      have HX1 := Lib.hid (HX0.out.below hb)
      have HB1 := Lib.hid (Below.then HB0.out hb)
      clear hb HX0 HB0 y0_0 y1_0
      have y0_1 := HX1.out.1
      have y1_1 := HX1.out.2
      rw [hT]
      go_wp2_with fail
      refine (has_any s _ a _ (by omega)).mono ?_
      rintro e w2 ⟨rfl, hb⟩
      have HX2 := Lib.hid (HX1.out.below hb)
      have HB2 := Lib.hid (Below.then HB1.out hb)
      clear hb HX1 HB1 y0_1 y1_1
      have y0_2 := HX2.out.1
      have y1_2 := HX2.out.2
      rw [hA]
      go_wp2
      go_ret
      exact ⟨ret_bool (by simp [beatB, hA]), HB2.out⟩
    · have ha := inB_true.1 hA
      rcases hB : inB b 0 (s - 1) with _ | _
      · go_enter Try.func36, Try.ntmps36
        go_wp2_with fail
        have b0 := below_alloc1 w (.cells #[.int .i64 s, .slice A xs.length c] 28)
        have x0 := TBox.new w s (.slice A xs.length c) 28
        generalize w.alloc (.cells #[.int .i64 s, .slice A xs.length c] 28) = w0 at *
        have HX0 := Lib.hid x0
        have HB0 := Lib.hid b0
        clear x0 b0
        have y0_0 := HX0.out.1
        have y1_0 := HX0.out.2
        go_wp2_with fail
        refine (implTourOk s _ xs _ (HR.out.below HB0.out)).mono ?_
        rintro e w1 ⟨rfl, hb⟩
        have HX1 := Lib.hid (HX0.out.below hb)
        have HB1 := Lib.hid (Below.then HB0.out hb)
        clear hb HX0 HB0 y0_0 y1_0
        have y0_1 := HX1.out.1
        have y1_1 := HX1.out.2
        rw [hT]
        go_wp2_with fail
        refine (has_any s _ a _ (by omega)).mono ?_
        rintro e w2 ⟨rfl, hb⟩
        have HX2 := Lib.hid (HX1.out.below hb)
        have HB2 := Lib.hid (Below.then HB1.out hb)
        clear hb HX1 HB1 y0_1 y1_1
        have y0_2 := HX2.out.1
        have y1_2 := HX2.out.2
        rw [hA]
        go_wp2_with fail
        refine (has_any s _ b _ (by omega)).mono ?_
        rintro e w3 ⟨rfl, hb⟩
        have HX3 := Lib.hid (HX2.out.below hb)
        have HB3 := Lib.hid (Below.then HB2.out hb)
        clear hb HX2 HB2 y0_2 y1_2
        have y0_3 := HX3.out.1
        have y1_3 := HX3.out.2
        rw [hB]
        go_wp2
        go_ret
        exact ⟨ret_bool (by simp [beatB, hB]), HB3.out⟩
      · have hb' := inB_true.1 hB
        have HF : Hid (bitI (xs.getD a.toNat 0) b.toNat = beatB s xs a b) := by unfold Hid beatB; rw [hT, hA, hB]; rfl
        have HL := Lib.hid hl
        clear hp hl
        go_enter Try.func36, Try.ntmps36
        go_wp2_with fail
        have b0 := below_alloc1 w (.cells #[.int .i64 s, .slice A xs.length c] 28)
        have x0 := TBox.new w s (.slice A xs.length c) 28
        generalize w.alloc (.cells #[.int .i64 s, .slice A xs.length c] 28) = w0 at *
        have HX0 := Lib.hid x0
        have HB0 := Lib.hid b0
        clear x0 b0
        have y0_0 := HX0.out.1
        have y1_0 := HX0.out.2
        go_wp2_with fail
        refine (implTourOk s _ xs _ (HR.out.below HB0.out)).mono ?_
        rintro e w1 ⟨rfl, hb⟩
        have HX1 := Lib.hid (HX0.out.below hb)
        have HB1 := Lib.hid (Below.then HB0.out hb)
        clear hb HX0 HB0 y0_0 y1_0
        have y0_1 := HX1.out.1
        have y1_1 := HX1.out.2
        rw [hT]
        go_wp2_with fail
        refine (has_any s _ a _ (by omega)).mono ?_
        rintro e w2 ⟨rfl, hb⟩
        have HX2 := Lib.hid (HX1.out.below hb)
        have HB2 := Lib.hid (Below.then HB1.out hb)
        clear hb HX1 HB1 y0_1 y1_1
        have y0_2 := HX2.out.1
        have y1_2 := HX2.out.2
        rw [hA]
        go_wp2_with fail
        refine (has_any s _ b _ (by omega)).mono ?_
        rintro e w3 ⟨rfl, hb⟩
        have HX3 := Lib.hid (HX2.out.below hb)
        have HB3 := Lib.hid (Below.then HB2.out hb)
        clear hb HX2 HB2 y0_2 y1_2
        have y0_3 := HX3.out.1
        have y1_3 := HX3.out.2
        rw [hB]
        go_wp2_with fail
        refine (beats_any s _ xs a b _ (HR.out.below HB3.out) (by omega) (by have := HL.out; omega) (by omega) (by omega)).mono ?_
        rintro e w4 ⟨rfl, hb⟩
        have HX4 := Lib.hid (HX3.out.below hb)
        have HB4 := Lib.hid (Below.then HB3.out hb)
        clear hb HX3 HB3 y0_3 y1_3
        have y0_4 := HX4.out.1
        have y1_4 := HX4.out.2
        rw [HF.out]
        go_wp2
        go_ret
        exact ⟨rfl, HB4.out⟩
end Go.Proofs.Ytajeledbmnndmaa

namespace Go.Proofs.Ytajeledbmnndmaa
open Go.RowKit Go.Sort

/-- a player's wins as a natural number -/
def winsN (xs : List Int) (a : Nat) : Nat := (xs.getD a 0).toNat
theorem tour_wins {s : Int} {xs : List Int} (h : tourP s xs) {a : Nat} (ha : a < xs.length) : xs.getD a 0 = (winsN xs a : Int) ∧ winsN xs a < 2 ^ s.toNat ∧ winsN xs a < 256 := by
  have hm : xs.getD a 0 ∈ xs := by
    rw [List.getD_eq_getElem?_getD, List.getElem?_eq_getElem ha]; exact List.getElem_mem _
  have hx := h.2.2.1 _ hm
  have hp := pow_small s (by have := h.1; omega)
  have h2 : ((2 : Int) ^ s.toNat) = ((2 ^ s.toNat : Nat) : Int) := by simp
  unfold winsN
  rw [h2] at hp hx
  omega
noncomputable def scI (s : Int) (xs : List Int) (a : Int) : Int := if (tourB s xs && inB a 0 (s - 1)) = true then (popN 8 (winsN xs a.toNat) : Int) else -1
set_option maxHeartbeats 400000 in
theorem score_any (s : Int) (sl : Value) (xs : List Int) (a : Nat) (w : World) (h : Rd w sl xs) (hp : tourP s xs) (ha : a < xs.length) :
    Calls Try.prog 147 #[.agg #[.int .i64 s, sl], .int .i64 a] w fun e w' => e = .returned (.int .i64 (popN 8 (winsN xs a) : Nat)) ∧ Below w.heap.size w w' := by
  obtain ⟨A, c, rfl, -, hm, hc⟩ := h
  unfold maxLen at hm
  have hw := tour_wins hp ha
  have hl8 : xs.length ≤ 8 := by have := hp.1; have := hp.2.1; omega
  obtain ⟨g, off, rfl, hg, hx⟩ := hc (by omega)
  have hxa := hx a ha
  rw [hw.1] at hxa
  generalize winsN xs a = x at *
  have h256 := hw.2.2
  have X0 := TBox.new w s (.slice (some ⟨g, off, none⟩) xs.length c) 28
  have b0 := below_alloc1 w (.cells #[.int .i64 s, .slice (some ⟨g, off, none⟩) xs.length c] 28)
  have hxa' := (b0.cell (by exact hg)).trans hxa
  have B0 := Lib.hid b0
  have y1 := X0.2
  clear hx hxa hw b0 X0 hp hc
  go_enter Try.func147, Try.ntmps147
  go_wp2_with (go_at_call 111; refine (ones_any x _ h256).mono ?_; rintro e w1 ⟨rfl, rfl⟩)
  go_ret
  exact ⟨rfl, B0.out⟩
end Go.Proofs.Ytajeledbmnndmaa

namespace Go.Proofs.Ytajeledbmnndmaa
open Go.RowKit Go.Sort

/-- the elements below k of a set, in ascending order -/
def memN (S k : Nat) : List Nat := (List.range k).filter fun a => S.testBit a
def memL (S k : Nat) : List Int := (memN S k).map fun (a : Nat) => (a : Int)
theorem memN_succ (S k : Nat) : memN S (k + 1) = memN S k ++ if S.testBit k then [k] else [] := by
  unfold memN
  rw [List.range_succ, List.filter_append]
  congr 1
  rcases h : S.testBit k with _ | _ <;> simp [h]
theorem memL_yes {S k : Nat} (h : S.testBit k = true) : memL S (k + 1) = memL S k ++ [(k : Int)] := by unfold memL; rw [memN_succ, h]; simp
theorem memL_no {S k : Nat} (h : S.testBit k = false) : memL S (k + 1) = memL S k := by unfold memL; rw [memN_succ, h]; simp
theorem memN_len (S k : Nat) : (memN S k).length ≤ k := by
  unfold memN
  refine Nat.le_trans (List.length_filter_le _ _) ?_
  rw [List.length_range]; exact Nat.le_refl _
theorem memL_len (S k : Nat) : (memL S k).length ≤ k := by unfold memL; rw [List.length_map]; exact memN_len S k
theorem memN_top {S k n : Nat} (hk : k ≤ n) (h : S / 2 ^ k = 0) : memN S n = memN S k := by
  obtain ⟨d, rfl⟩ := Nat.exists_eq_add_of_le hk
  clear hk
  induction d with
  | zero => rfl
  | succ d ih =>
    have : S.testBit (k + d) = false := by
      have h1 : S < 2 ^ k := by
        rcases Nat.lt_or_ge S (2 ^ k) with h1 | h1
        · exact h1
        · have := Nat.div_pos h1 (Nat.two_pow_pos k); omega
      exact Nat.testBit_lt_two_pow (Nat.lt_of_lt_of_le h1 (Nat.pow_le_pow_right (by decide) (by omega)))
    rw [← Nat.add_assoc, memN_succ, this, ih]; simp
theorem mem_memN {S k a : Nat} : a ∈ memN S k ↔ a < k ∧ S.testBit a = true := by simp [memN]
theorem memL_at {S k j : Nat} (h : j < (memN S k).length) : (memL S k).getD j 0 = ((memN S k)[j] : Int) := by simp [memL, h]
theorem memN_at {S k j : Nat} (h : j < (memN S k).length) : (memN S k)[j] < k ∧ S.testBit (memN S k)[j] = true := mem_memN.1 (List.getElem_mem h)
set_option maxHeartbeats 1000000 in
theorem membersOf_any (S n : Nat) (w : World) (hS : S < 2 ^ n) (hn : n ≤ 60) :
    Calls Try.prog 74 #[.int .i64 S] w fun e w' => ∃ v', e = .returned v' ∧ Own w' w.heap.size v' (memL S n) ∧ Below w.heap.size w w' := by
  have hp : 2 ^ n ≤ 2 ^ 60 := Nat.pow_le_pow_right (by decide) hn
  rw [show (2 : Nat) ^ 60 = 1152921504606846976 from by decide] at hp
  have HS := Lib.hid hS
  have hS63 : S < 1152921504606846976 := by omega
  clear hp hS
  go_enter Try.func74, Try.ntmps74
  go_wp2
  go_loopw [3, 4] (fun v i wr => ∃ k : Nat, k ≤ n ∧ i = .int .i64 k ∧ Own wr w.heap.size v (memL S k) ∧ Below w.heap.size w wr) (fun _ i _ => n - (intOf i).toNat)
  case atStart => exact ⟨0, by omega, rfl, by simpa [memL, memN] using Own.nil_ w w.heap.size, Below.refl _ _⟩
  case round =>
    obtain ⟨k, hk, rfl, hown, hb⟩ := hrel
    have hlen := memL_len S k
    rcases hz : decide (0 < (S : Int) / 2 ^ k) with _ | _
    · have h0 : S / 2 ^ k = 0 := by
        have := of_decide_eq_false hz
        have h2 : ((S : Int) / 2 ^ k) = ((S / 2 ^ k : Nat) : Int) := by simp
        rw [h2] at this
        generalize S / 2 ^ k = d at *
        omega
      have HT : Hid (memL S n = memL S k) := by unfold Hid memL; rw [memN_top hk h0]
      clear h0
      go_wp2
      go_ret
      exact ⟨_, rfl, by rw [HT.out]; exact hown, hb⟩
    · have h0 : 0 < S / 2 ^ k := by
        have := of_decide_eq_true hz
        have h2 : ((S : Int) / 2 ^ k) = ((S / 2 ^ k : Nat) : Int) := by simp
        rw [h2] at this
        generalize S / 2 ^ k = d at *
        omega
      have hkn : k < n := by
        rcases Nat.lt_or_ge k n with h | h
        · exact h
        · have : S / 2 ^ k = 0 := Nat.div_eq_of_lt (Nat.lt_of_lt_of_le HS.out (Nat.pow_le_pow_right (by decide) h))
          omega
      clear h0
      have hbit := bit_test S k
      rcases hB : S.testBit k with _ | _
      · rw [hB] at hbit
        have HM := Lib.hid (memL_no hB)
        go_wp2
        go_roundw
        case rel => exact ⟨k + 1, by omega, by go_num, by rw [HM.out]; exact hown, hb⟩
        case measure => simp [intOf]; omega
      · rw [hB] at hbit
        have HM := Lib.hid (memL_yes hB)
        have hbs := hb.size
        go_wp2_with (at_builtin; refine wp_append1 _ rfl (.tmp 16) (.tmp 18) rfl w.heap.size _ _ _ rfl hown rfl (by omega) (by omega) ?_; intro v' w1 hown1 hg1)
        have hb1 := below_append hb hg1 hown (Nat.le_refl _) hbs
        go_roundw
        case rel => exact ⟨k + 1, by omega, by go_num, by rw [HM.out]; exact hown1, hb1⟩
        case measure => simp [intOf]; omega
set_option maxHeartbeats 1000000 in
theorem l02List_any (S n : Nat) (w : World) (hS : S < 2 ^ n) (hn : n ≤ 60) :
    Calls Try.prog 68 #[.int .i64 S] w fun e w' => ∃ v', e = .returned v' ∧ Own w' w.heap.size v' (memL S n) ∧ Below w.heap.size w w' := by
  have hp : 2 ^ n ≤ 2 ^ 60 := Nat.pow_le_pow_right (by decide) hn
  rw [show (2 : Nat) ^ 60 = 1152921504606846976 from by decide] at hp
  have HS := Lib.hid hS
  have hS63 : S < 1152921504606846976 := by omega
  clear hp hS
  go_enter Try.func68, Try.ntmps68
  go_wp2
  go_loopw [0, 3, 4] (fun s v i wr => ∃ k R : Nat, k ≤ n ∧ i = .int .i64 k ∧ s = .int .i64 R ∧ R ≤ S ∧ Hid (R = S / 2 ^ k) ∧ Own wr w.heap.size v (memL S k) ∧ Below w.heap.size w wr) (fun _ _ i _ => n - (intOf i).toNat)
  case atStart => exact ⟨0, S, by omega, rfl, rfl, Nat.le_refl _, by simp [Hid], by simpa [memL, memN] using Own.lit w w.heap.size [] (Nat.le_refl _) (by simp), below_alloc1 _ _⟩
  case round =>
    obtain ⟨k, R, hk, rfl, rfl, hR, HR, hown, hb⟩ := hrel
    have hlen := memL_len S k
    by_cases hz : 0 < R
    · have hkn : k < n := by
        rcases Nat.lt_or_ge k n with h | h
        · exact h
        · have : S / 2 ^ k = 0 := Nat.div_eq_of_lt (Nat.lt_of_lt_of_le HS.out (Nat.pow_le_pow_right (by decide) h))
          have := HR.out
          omega
      have HN : Hid (R / 2 = S / 2 ^ (k + 1)) := by unfold Hid; rw [HR.out, Nat.div_div_eq_div_mul, ← Nat.pow_succ]
      have hand := i64_and_one (R : Int)
      have hT : S.testBit k = decide (R % 2 = 1) := by rw [Nat.testBit_eq_decide_div_mod_eq, ← HR.out]
      rcases hB : S.testBit k with _ | _
      · rw [hB] at hT
        have h2 := of_decide_eq_false hT.symm
        have hbit : (bits BinOp.and IntKind.i64 (R : Int) 1 == 1) = false := by rw [hand]; simp; omega
        have HM := Lib.hid (memL_no hB)
        clear hand hT
        go_wp2
        go_roundw
        case rel => exact ⟨k + 1, R / 2, by omega, by go_num, by go_num, by omega, HN.out, by rw [HM.out]; exact hown, hb⟩
        case measure => simp [intOf]; omega
      · rw [hB] at hT
        have h2 := of_decide_eq_true hT.symm
        have hbit : (bits BinOp.and IntKind.i64 (R : Int) 1 == 1) = true := by rw [hand]; simp; omega
        have HM := Lib.hid (memL_yes hB)
        have hbs := hb.size
        clear hand hT
        go_wp2_with (at_builtin; refine wp_append1 _ rfl (.tmp 13) (.tmp 15) rfl w.heap.size _ _ _ rfl hown rfl (by omega) (by omega) ?_; intro v' w1 hown1 hg1)
        have hb1 := below_append hb hg1 hown (Nat.le_refl _) hbs
        go_roundw
        case rel => exact ⟨k + 1, R / 2, by omega, by go_num, by go_num, by omega, HN.out, by rw [HM.out]; exact hown1, hb1⟩
        case measure => simp [intOf]; omega
    · obtain rfl : R = 0 := by omega
      have HT : Hid (memL S n = memL S k) := by unfold Hid memL; rw [memN_top hk HR.out.symm]
      go_wp2
      go_ret
      exact ⟨_, rfl, by rw [HT.out]; exact hown, hb⟩
end Go.Proofs.Ytajeledbmnndmaa

namespace Go.Proofs.Ytajeledbmnndmaa
open Go.RowKit Go.Sort

/-- a set with all that the listed beat -/
def orK (xs : List Int) (l : List Nat) (S : Nat) : Nat := l.foldl (fun s b => s ||| winsN xs b) S
theorem orK_snoc (xs : List Int) (l : List Nat) (b S : Nat) : orK xs (l ++ [b]) S = orK xs l S ||| winsN xs b := by simp [orK]
def nearN (xs : List Int) (a : Nat) : Nat := orK xs (memN (winsN xs a) 8) (winsN xs a ||| 2 ^ a)
def kingN (xs : List Int) (a : Nat) : Bool := nearN xs a == 2 ^ xs.length - 1
noncomputable def kingB (s : Int) (xs : List Int) (a : Int) : Bool := tourB s xs && (inB a 0 (s - 1) && kingN xs a.toNat)
theorem or_lt8 {a b : Nat} (ha : a < 256) (hb : b < 256) : a ||| b < 256 := Nat.or_lt_two_pow (n := 8) ha hb
theorem pow_lt8 {a : Nat} (h : a < 8) : 2 ^ a < 256 := Nat.pow_lt_pow_right (n := 8) (by decide) h
theorem take_snocN {l : List Nat} {k : Nat} (hk : k < l.length) : l.take (k + 1) = l.take k ++ [l[k]] := List.take_succ_eq_append_getElem hk
theorem orK_lt {s : Int} {xs : List Int} (hp : tourP s xs) {l : List Nat} (hl : ∀ b ∈ l, b < xs.length) {S : Nat} (hS : S < 256) : orK xs l S < 256 := by
  induction l generalizing S with
  | nil => exact hS
  | cons b l ih =>
    unfold orK
    rw [List.foldl_cons]
    exact ih (fun c hc => hl c (by simp [hc])) (or_lt8 hS (tour_wins hp (hl b (by simp))).2.2)
/-- the players whom a player beats are players -/
theorem wins_mem {s : Int} {xs : List Int} (hp : tourP s xs) {a : Nat} (ha : a < xs.length) : ∀ b ∈ memN (winsN xs a) 8, b < xs.length := by
  intro b hb
  have hw := (tour_wins hp ha).2.1
  have hbit := (mem_memN.1 hb).2
  rcases Nat.lt_or_ge b xs.length with h | h
  · exact h
  · have hs := hp.2.1
    rw [Nat.testBit_lt_two_pow (Nat.lt_of_lt_of_le hw (Nat.pow_le_pow_right (by decide) (by omega)))] at hbit
    cases hbit
/-- the cells of a tour as natural numbers -/
theorem tour_cells {w : World} {sl : Value} {s : Int} {xs : List Int} (h : Rd w sl xs) (hp : tourP s xs) :
    ∃ g off c, sl = .slice (some ⟨g, off, none⟩) xs.length c ∧ c ≤ maxLen ∧ g < w.heap.size ∧ ∀ j, j < xs.length → w.cell? ⟨g, off + j, none⟩ = some (.int .i64 (winsN xs j)) := by
  obtain ⟨A, c, rfl, -, hm, hc⟩ := h
  obtain ⟨g, off, rfl, hg, hx⟩ := hc (by have := hp.1; have := hp.2.1; omega)
  exact ⟨g, off, c, rfl, hm, hg, fun j hj => by rw [hx j hj, (tour_wins hp hj).1]⟩
theorem or_shl' (S a : Nat) (hS : S < 4611686018427387904) (h : a ≤ 61) : bits .or .i64 (wrap64 (2 ^ a)) (S : Int) = ((S ||| 2 ^ a : Nat) : Int) := by
  rw [shl_nat a h, i64_or_nat _ _ (pow_lt63 h) (by omega), Nat.or_comm]
theorem getD_nat {l : List Nat} {j : Nat} (h : j < l.length) : l.getD j 0 = l[j] := by simp [h]
/-- the cells of a list of players -/
theorem memL_cells {w : World} {v : Value} {base S k : Nat} (h : Own w base v (memL S k)) : ∃ A c, v = .slice A (memN S k).length c ∧ c ≤ maxLen ∧ (memN S k).length ≤ c ∧
    (0 < (memN S k).length → ∃ g off, A = some ⟨g, off, none⟩ ∧ g < w.heap.size ∧ ∀ j, j < (memN S k).length → w.cell? ⟨g, off + j, none⟩ = some (.int .i64 ((memN S k).getD j 0 : Nat))) := by
  obtain ⟨A, c, rfl, hl, hm, hc⟩ := h.rd
  have e : (memL S k).length = (memN S k).length := by simp [memL]
  rw [e] at hl hc
  refine ⟨A, c, by rw [e], hm, hl, fun h0 => ?_⟩
  obtain ⟨g, off, rfl, hg, hx⟩ := hc h0
  exact ⟨g, off, rfl, hg, fun j hj => by rw [hx j hj, memL_at hj, getD_nat hj]⟩
set_option maxHeartbeats 1000000 in
theorem isKing_any (s : Int) (sl : Value) (xs : List Int) (a : Nat) (w : World) (h : Rd w sl xs) (hp : tourP s xs) (ha : a < xs.length) :
    Calls Try.prog 132 #[.agg #[.int .i64 s, sl], .int .i64 a] w fun e w' => e = .returned (.bool (kingN xs a)) ∧ Below w.heap.size w w' := by
  obtain ⟨g, off, c, rfl, hm, hg, hx⟩ := tour_cells h hp
  unfold maxLen at hm
  have hs := hp.1
  have hsl := hp.2.1
  have HX := Lib.hid hx
  have HW := Lib.hid (fun j hj => (tour_wins hp (a := j) hj).2.2)
  have HM := Lib.hid (wins_mem hp ha)
  have HK := Lib.hid (fun (l : List Nat) (hl : ∀ b ∈ l, b < xs.length) => orK_lt hp hl (or_lt8 (tour_wins hp ha).2.2 (pow_lt8 (by omega : a < 8))))
  have hN : Hid (kingN xs a = (nearN xs a == 2 ^ xs.length - 1)) := rfl
  have hR : Hid (nearN xs a = orK xs (memN (winsN xs a) 8) (winsN xs a ||| 2 ^ a)) := rfl
  have hxa := hx a ha
  have h256 := HW.out a ha
  have hor := or_shl' (winsN xs a) a (by omega) (by omega)
  clear hp h hx
  generalize hn : xs.length = n at *
  obtain rfl : s = n := by omega
  have HN := Lib.hid hn
  clear hn
  go_enter Try.func132, Try.ntmps132
  go_wp2_with fail
  have b0 := below_alloc1 w (.cells #[.int .i64 n, .slice (some ⟨g, off, none⟩) n c] 28)
  have x0 := TBox.new w n (.slice (some ⟨g, off, none⟩) n c) 28
  generalize w.alloc (.cells #[.int .i64 n, .slice (some ⟨g, off, none⟩) n c] 28) = w0 at *
  have HX0 := Lib.hid x0
  have HB0 := Lib.hid b0
  clear x0 b0
  have y0_0 := HX0.out.1
  have y1_0 := HX0.out.2
  have c0 := cell_regrown ((HB0.out.cell (by exact hg)).trans hxa)
  have y0_q := cell_regrown y0_0
  have y1_q := cell_regrown y1_0
  clear y0_0 y1_0
  refine wp_region_below (by kernel_rfl) (by kernel_rfl) ?_
  repeat (go_big_quiet_step (first | (with_reducible fail)))
  refine wpQuiet_nil ?_
  intro wq hbq0
  have hbq := Lib.hid hbq0
  clear hbq0
  clear y0_q y1_q
  clear c0 hor
  have B1 := Lib.hid (Below.then HB0.out hbq.out)
  have X1 := HX0.out.below hbq.out
  have y0 := X1.1
  have y1 := X1.2
  have hxa := (B1.out.cell (by exact hg)).trans hxa
  have X1 := Lib.hid X1
  clear hbq HX0 HB0
  go_wp2_with fail
  refine (membersOf_any (winsN xs a) 8 _ h256 (by omega)).mono ?_
  rintro e w2 ⟨v, rfl, ho, hb2⟩
  obtain ⟨A, d, rfl, hd1, hd2, hl⟩ := memL_cells ho
  unfold maxLen at hd1
  have HL := Lib.hid hl
  have B2 := Lib.hid (Below.then B1.out hb2)
  have X2 := X1.out.below hb2
  clear y0 y1
  have y0 := X2.1
  have y1 := X2.2
  have HXX := Lib.hid (fun j hj => (B2.out.cell (by exact hg)).trans (HX.out j hj))
  have hm8 := memN_len (winsN xs a) 8
  clear hxa hb2 B1 X1 ho hl X2
  generalize hlst : memN (winsN xs a) 8 = L at *
  generalize winsN xs a ||| 2 ^ a = S0 at *
  generalize hLn : L.length = m at *
  have HLN := Lib.hid hLn
  clear hLn
  go_wp2
  go_loop [5, 23] (fun t i => ∃ k : Nat, k ≤ m ∧ i = .int .i64 k ∧ t = .int .i64 (orK xs (L.take k) S0 : Nat)) (fun _ i => m - (intOf i).toNat)
  case atStart => exact ⟨0, by omega, rfl, by simp [orK]⟩
  case round =>
    obtain ⟨k, hk, rfl, rfl⟩ := hrel
    have hN8 := HK.out (L.take k) (fun b hb => HM.out b (List.mem_of_mem_take hb))
    by_cases hlt : k < m
    · have hkl : k < L.length := by rw [HLN.out]; exact hlt
      obtain ⟨g', off', rfl, hg', hz⟩ := HL.out (by omega)
      have hzk := hz k hlt
      have hbn := HM.out (L.getD k 0) (by rw [getD_nat hkl]; exact List.getElem_mem hkl)
      have hxb := HXX.out (L.getD k 0) hbn
      have hw8 := HW.out (L.getD k 0) hbn
      have HST : Hid (orK xs (L.take (k + 1)) S0 = orK xs (L.take k) S0 ||| winsN xs (L.getD k 0)) := by unfold Hid; rw [take_snocN hkl, orK_snoc, getD_nat hkl]
      generalize L.getD k 0 = b at *
      generalize orK xs (L.take k) S0 = N at *
      have hor := i64_or_nat N (winsN xs b) (by omega) (by omega)
      generalize winsN xs b = wb at *
      clear hz
      go_wp2
      go_round
      case rel => exact ⟨k + 1, by omega, by go_num, by rw [HST.out]⟩
      case measure => simp [intOf]; omega
    · obtain rfl : k = m := by omega
      rw [show L.take k = L from List.take_of_length_le (by rw [HLN.out]; exact Nat.le_refl _)] at hN8 ⊢
      have hfull := full_nat n (by omega)
      rw [← hR.out] at hN8 ⊢
      go_wp2
      go_ret
      refine ⟨ret_bool ?_, B2.out⟩
      rw [hN.out]
      first | rw [hfull] | skip
      rw [Bool.eq_iff_iff, beq_iff_eq, beq_iff_eq]
      omega
set_option maxHeartbeats 400000 in
theorem l02All_any (n : Nat) (sl : Value) (w : World) (h : n ≤ 8) :
    Calls Try.prog 66 #[.agg #[.int .i64 n, sl]] w fun e w' => e = .returned (.int .i64 (2 ^ n - 1 : Nat)) ∧ Below w.heap.size w w' := by
  have B0 := Lib.hid (below_alloc1 w (.cells #[.int .i64 n, sl] 28))
  have hfull := full_nat n h
  have HF := Lib.hid hfull
  clear hfull
  go_enter Try.func66, Try.ntmps66
  go_wp2
  go_ret
  exact ⟨ret_int HF.out, B0.out⟩
end Go.Proofs.Ytajeledbmnndmaa

namespace Go.Proofs.Ytajeledbmnndmaa
open Go.RowKit Go.Sort

/-- who of two is gone to from a -/
def stepF (xs : List Int) (a best b : Nat) : Nat := if best = a ∨ popN 8 (winsN xs best) < popN 8 (winsN xs b) then b else best
def loseN (xs : List Int) (a n : Nat) : List Nat := (List.range n).filter fun b => bitI (xs.getD b 0) a
def kstK (xs : List Int) (a : Nat) (l : List Nat) : Nat := l.foldl (stepF xs a) a
def kstepN (xs : List Int) (a : Nat) : Nat := kstK xs a (loseN xs a xs.length)
noncomputable def kstepI (s : Int) (xs : List Int) (a : Int) : Int := if (tourB s xs && inB a 0 (s - 1)) = true then (kstepN xs a.toNat : Int) else -1
theorem kstK_snoc (xs : List Int) (a : Nat) (l : List Nat) (b : Nat) : kstK xs a (l ++ [b]) = stepF xs a (kstK xs a l) b := by simp [kstK]
theorem loseN_succ (xs : List Int) (a k : Nat) : loseN xs a (k + 1) = loseN xs a k ++ if bitI (xs.getD k 0) a then [k] else [] := by
  unfold loseN
  rw [List.range_succ, List.filter_append]
  congr 1
  rcases h : bitI (xs.getD k 0) a with _ | _ <;> simp [List.filter_cons, -List.getD_eq_getElem?_getD, h]
theorem stepF_mem (xs : List Int) (a best b : Nat) : stepF xs a best b = b ∨ stepF xs a best b = best := by unfold stepF; split <;> simp
theorem kstK_mem {xs : List Int} {a n : Nat} (ha : a < n) {l : List Nat} (hl : ∀ b ∈ l, b < n) : kstK xs a l < n := by
  have : ∀ (l : List Nat) (m : Nat), m < n → (∀ b ∈ l, b < n) → l.foldl (stepF xs a) m < n := by
    intro l
    induction l with
    | nil => intro m hm _; exact hm
    | cons b l ih =>
      intro m hm hl
      rw [List.foldl_cons]
      refine ih _ ?_ fun c hc => hl c (by simp [hc])
      rcases stepF_mem xs a m b with e | e
      · rw [e]; exact hl b (by simp)
      · rw [e]; exact hm
  exact this l a ha hl
theorem bit_nat {s : Int} {xs : List Int} (hp : tourP s xs) {a b : Nat} (ha : a < xs.length) : bitI (xs.getD a 0) b = (winsN xs a).testBit b := by
  rw [testBit_iff, ← (tour_wins hp ha).1]; rfl
/-- the set of those who beat a player -/
def lossN (xs : List Int) (a : Nat) : Nat := less (less (2 ^ xs.length - 1) (winsN xs a)) (2 ^ a)
theorem loss_list {s : Int} {xs : List Int} (hp : tourP s xs) {a : Nat} (ha : a < xs.length) : memN (lossN xs a) xs.length = loseN xs a xs.length := by
  unfold memN loseN
  refine List.filter_congr fun b hb => ?_
  have hb := List.mem_range.1 hb
  unfold lossN
  rw [testBit_less, testBit_less, testBit_full, Nat.testBit_two_pow, ← bit_nat hp ha]
  have hT := hp.2.2.2
  simp only [hb, decide_true, Bool.true_and]
  rcases Nat.lt_trichotomy a b with h | h | h
  · have h1 := (hT b hb).2 a h
    have e : decide (a = b) = false := by simp; omega
    rw [e]
    rcases h2 : bitI (xs.getD a 0) b with _ | _ <;> rcases h3 : bitI (xs.getD b 0) a with _ | _ <;> rw [h2, h3] at h1 <;> first | rfl | exact absurd rfl h1
  · subst h
    rw [(hT a ha).1]; simp
  · have h1 := (hT a ha).2 b h
    have e : decide (a = b) = false := by simp; omega
    rw [e]
    rcases h2 : bitI (xs.getD a 0) b with _ | _ <;> rcases h3 : bitI (xs.getD b 0) a with _ | _ <;> rw [h2, h3] at h1 <;> first | rfl | exact absurd rfl h1
theorem less_full_lt' (n S : Nat) : less (2 ^ n - 1) S < 2 ^ n := less_lt (by have := Nat.two_pow_pos n; omega)
theorem full_less {n W : Nat} (hW : W < 2 ^ n) : 2 ^ n - 1 - W = less (2 ^ n - 1) W := by
  have e : 2 ^ n - 1 - W = 2 ^ n - (W + 1) := by omega
  rw [e]
  apply Nat.eq_of_testBit_eq
  intro i
  rw [Nat.testBit_two_pow_sub_succ hW, testBit_less, testBit_full]
theorem loss_val {n W a : Nat} (hn : n ≤ 8) (hW : W < 2 ^ n) (ha : a < n) (hself : W.testBit a = false) :
    wrap64 (wrap64 (wrap64 (wrap64 (2 ^ n) - 1) - (W : Int)) - wrap64 (2 ^ a)) = ((less (less (2 ^ n - 1) W) (2 ^ a) : Nat) : Int) := by
  have hp8 := pow_le hn
  have hbit : (less (2 ^ n - 1) W).testBit a = true := by rw [testBit_less, testBit_full, hself]; simp [ha]
  have hlt : less (2 ^ n - 1) W < 256 := Nat.lt_of_lt_of_le (less_full_lt' n W) hp8
  have hge := Nat.ge_two_pow_of_testBit hbit
  have h3 := sub_less (Nat.lt_trans hlt (by decide)) (by omega) hbit
  have hpn : 1 ≤ 2 ^ n := Nat.one_le_two_pow
  rw [full_nat n hn, shl_nat a (by omega), ← Int.natCast_sub (by omega : W ≤ 2 ^ n - 1), full_less hW]
  rw [wrap64_nat _ (Nat.lt_trans hlt (by decide)), ← Int.natCast_sub hge, h3]
  exact wrap64_nat _ (Nat.lt_trans (less_lt (n := 8) hlt) (by decide))
set_option maxHeartbeats 1000000 in
theorem losses_any (s : Int) (sl : Value) (xs : List Int) (a : Nat) (w : World) (h : Rd w sl xs) (hp : tourP s xs) (ha : a < xs.length) :
    Calls Try.prog 138 #[.agg #[.int .i64 s, sl], .int .i64 a] w fun e w' => e = .returned (.int .i64 (lossN xs a : Nat)) ∧ Below w.heap.size w w' := by
  obtain ⟨g, off, c, rfl, hm, hg, hx⟩ := tour_cells h hp
  unfold maxLen at hm
  have hs := hp.1
  have hsl := hp.2.1
  have hw := (tour_wins hp ha).2.1
  have hself : (winsN xs a).testBit a = false := by rw [← bit_nat hp ha]; exact (hp.2.2.2 a ha).1
  have hxa := hx a ha
  have hL : Hid (lossN xs a = less (less (2 ^ xs.length - 1) (winsN xs a)) (2 ^ a)) := rfl
  clear hp h hx
  generalize hn : xs.length = n at *
  obtain rfl : s = n := by omega
  rw [show ((n : Int)).toNat = n from rfl] at hw
  generalize winsN xs a = W at *
  go_enter Try.func138, Try.ntmps138
  go_wp2_with fail
  have b0 := below_alloc1 w (.cells #[.int .i64 n, .slice (some ⟨g, off, none⟩) n c] 28)
  have x0 := TBox.new w n (.slice (some ⟨g, off, none⟩) n c) 28
  generalize w.alloc (.cells #[.int .i64 n, .slice (some ⟨g, off, none⟩) n c] 28) = w0 at *
  have HX0 := Lib.hid x0
  have HB0 := Lib.hid b0
  clear x0 b0
  have y0_0 := HX0.out.1
  have y1_0 := HX0.out.2
  have c0 := cell_regrown ((HB0.out.cell (by exact hg)).trans hxa)
  have y0_q := cell_regrown y0_0
  have y1_q := cell_regrown y1_0
  clear y0_0 y1_0
  refine wp_region_below (by kernel_rfl) (by kernel_rfl) ?_
  repeat (go_big_quiet_step (first | (with_reducible fail)))
  refine wpQuiet_nil ?_
  intro wq hbq0
  have hbq := Lib.hid hbq0
  clear hbq0
  clear y0_q y1_q
  go_wp2
  go_ret
  refine ⟨ret_int ?_, Below.then HB0.out hbq.out⟩
  rw [hL.out]
  exact loss_val (by omega) hw ha hself
end Go.Proofs.Ytajeledbmnndmaa

namespace Go.Proofs.Ytajeledbmnndmaa
open Go.RowKit Go.Sort

section
variable {P : Program} {ops : Array Oper} {md : Region.Mode} {C : World → Prop}

/-- whatever order is picked among the first n, with n of them left to do -/
def pickQ (P : Program) (md : Region.Mode) (ops : Array Oper) (C : World → Prop) (n : Nat) (L : Array Bool → Act → Prop) : Nat → Array Bool → Act → Prop
  | 0, b, a => L b a
  | f + 1, b, a => Region.ready md ops b ≠ [] ∧ ∀ i ∈ Region.ready md ops b, i < n ∧ qOp P ops C i (pickQ P md ops C n L f (b.setIfInBounds i true)) a

theorem pickQ_any {n g : Nat} {L : Array Bool → Act → Prop} {R : Exit → Act → World → Prop} (hL : ∀ b a w, C w → L b a → wpAny P md ops R g b a w) (f : Nat) :
    ∀ (b : Array Bool) (a : Act) (w : World), C w → pickQ P md ops C n L f b a → wpAny P md ops R (f + g) b a w := by
  induction f with
  | zero => intro b a w hw h; rw [Nat.zero_add]; exact hL _ _ _ hw h
  | succ f ih =>
    intro b a w hw h
    rw [show f + 1 + g = (f + g) + 1 by omega]
    exact ⟨fun h0 => absurd h0 h.1, fun i hi => wpOp_of_qOp hw (fun a' w' hw' h' => ih _ a' w' hw' h') (h.2 i hi).2⟩

theorem pickQ_first {n i : Nat} {oi : Oper} {v : Value} {L : Array Bool → Act → Prop} (hi : ops[i]? = some oi) (hsel : ∀ (j : Nat) (o : Oper) cs b, ops[j]? = some o → o.op ≠ .select cs b)
    (hs : Region.sinkB md ops n = true) (hc : Region.chainB md ops n = true) (hn : n < ops.size) (hin : i < n) (hdone : ∀ b a, L b a → ∀ j ∈ Region.ready md ops b, n ≤ j) (f : Nat) :
    ∀ (b : Array Bool) (a : Act), HeadInv md ops n b →
      (∀ j oj, ops[j]? = some oj → j ≠ i → b.getD j true = false → (∀ e ∈ oj.after, Region.binds md e = true → e.on ≠ i) → oi.apart ops oj = true) →
      i ∈ Region.ready md ops b → YieldsIn P ops C oi v a →
      pickQ P md ops C n L f (b.setIfInBounds i true) (a.put oi.dst v) → pickQ P md ops C n L (f + 1) b a := by
  induction f with
  | zero =>
    intro b a inv _ hr hy H
    have hun := (mem_ready.1 hr).1
    refine ⟨fun h => (by rw [h] at hr; cases hr), fun j hj => ?_⟩
    have hjn : j < n := Nat.lt_of_not_le fun h => tail_waits hs hc hn inv _ i rfl hin hun j h hj
    by_cases hji : j = i
    · subst hji; exact ⟨hjn, hy.qOp hi H⟩
    · have := hdone _ _ H j (ready_mono hj hji); omega
  | succ f ih =>
    intro b a inv hfree hr hy H
    have hun := (mem_ready.1 hr).1
    refine ⟨fun h => (by rw [h] at hr; cases hr), fun j hj => ?_⟩
    have hjn : j < n := Nat.lt_of_not_le fun h => tail_waits hs hc hn inv _ i rfl hin hun j h hj
    refine ⟨hjn, ?_⟩
    by_cases hji : j = i
    · subst hji; exact hy.qOp hi H
    · obtain ⟨hjun, oj, hoj, hall⟩ := mem_ready.1 hj
      have hnot : ∀ e ∈ oj.after, Region.binds md e = true → e.on ≠ i := fun e he hb heq => by
        have h1 := hall e he hb
        rw [heq, getD_both hun] at h1
        cases h1
      have h2 := qOp_put hoj (hfree j oj hoj hji hjun hnot) (fun cs b => hsel i oi cs b hi) (fun cs b => hsel j oj cs b hoj) hy (H.2 j (ready_mono hj hji)).2
      refine qOp_mono (fun a' h3 => ih (b.setIfInBounds j true) a' (inv.set hj hjn) (fun k ok hk hki hun hno => hfree k ok hk hki ?_ hno) (ready_mono hr (Ne.symm hji)) h3.1 ?_) h2
      · by_cases hjk : j = k
        · subst hjk; exact hjun
        · rw [getD_set_ne true hjk] at hun; exact hun
      · rw [Array.setIfInBounds_comm _ _ hji]
        exact h3.2

theorem pickQ_lex {n g : Nat} {Lq : Act → Prop} (hsel : Region.noSelect ops = true) (hs : Region.sinkB md ops n = true) (hc : Region.chainB md ops n = true) (hn : n < ops.size) :
    ∀ (l : List Oper) (k : Nat) (b : Array Bool) (a : Act), (∀ j, j < l.length → l[j]? = ops[k + j]?) → k + l.length = n → HeadInv md ops n b →
    Region.lexHead md ops g l.length k b = true → wpQuiet P ops C Lq l a → pickQ P md ops C n (fun b' a' => Region.seqB md ops g n b' = true ∧ Lq a') l.length b a := by
  intro l
  induction l with
  | nil =>
    intro k b a _ hk _ hB h
    obtain rfl : k = n := by simpa using hk
    exact ⟨by simpa [Region.lexHead] using hB, h⟩
  | cons o l ih =>
    intro k b a hl hk inv hB h
    have h0 : ops[k]? = some o := by simpa using (hl 0 (by simp)).symm
    simp only [List.length_cons, Region.lexHead, Bool.and_eq_true] at hB
    simp only [List.length_cons] at hk
    have hr : k ∈ Region.ready md ops b := by simpa using hB.1.1
    have hq : qOp P ops C k (wpQuiet P ops C Lq l) a := by unfold qOp; simp only [h0]; exact h
    obtain ⟨v, hy, hK⟩ := yieldsIn_of_qOp h0 hq
    exact pickQ_first h0 (Region.noSelect_spec hsel) hs hc hn (by omega) (fun b' a' hL => seqB_ready hL.1) l.length b a inv (Region.free_spec h0 hB.1.2) hr hy
      (ih (k + 1) _ _ (fun j hj => by have := hl (j + 1) (by simp; omega); simpa [Nat.add_assoc, Nat.add_comm 1 j] using this) (by omega) (inv.set hr (by omega)) hB.2 hK)

/-- THE FIRST n OPERATIONS QUIET IN A CLASS OF WORLDS, THE REST BEHIND THEM IN ONE ORDER. -/
theorem wp_region_quiet_tail {id : Nat} {Q : Exit → Act → World → Prop} {a : Act} {w : World} {l : List Oper} (n : Nat) (hm : P.follows .mixedOrders = true) (hB : Region.lexTailB .any l.toArray n = true)
    (hC : C { w with drawn := w.drawn + 1 }) (h : wpQuiet P l.toArray C (fun a' => ∀ w', C w' → wpList P l.toArray Q (l.drop n) a' w') (l.take n) a) : (Code.region id l.toArray true).wp P Q a w := by
  simp only [Region.lexTailB, Bool.and_eq_true, decide_eq_true_eq] at hB
  obtain ⟨⟨⟨⟨hsel, hn⟩, hs⟩, hc⟩, hlex⟩ := hB
  have hn' : n < l.length := by simpa using hn
  have htl : (l.take n).length = n := by simp; omega
  have hdl : (l.drop n).length = l.toArray.size - n := by simp
  have H := pickQ_lex (md := .any) (g := l.toArray.size - n) hsel hs hc hn (l.take n) 0 (Array.replicate l.toArray.size false) a
    (fun j hj => by have hj' : j < n := by rw [htl] at hj; exact hj
                    simp [hj'])
    (by simpa using htl) ⟨by simp, fun j oj _ hl => (by rw [getD_replicate_false] at hl; cases hl), fun t _ ht => getD_in (by simpa using ht) (getD_replicate_false _ _)⟩
    (by rw [htl]; exact hlex) h
  refine wp_region_any hm ?_
  have := pickQ_any (R := Q) (g := l.toArray.size - n) (fun b a' w' hw' hL => by
    have := wpAny_of_seq (md := .any) (Q' := Q) (l.drop n) n b a' w' (fun j => by simp [List.getElem?_drop]) (by rw [hdl]; exact hL.1) (hL.2 w' hw')
    rwa [hdl] at this) _ _ _ _ hC H
  rw [htl, show n + (l.toArray.size - n) = l.toArray.size by omega] at this
  exact this
end

/-- The same at callees that leave all that was there. -/
theorem wp_region_below_tail {P : Program} {id : Nat} {Q : Exit → Act → World → Prop} {a : Act} {w : World} {l : List Oper} (n : Nat) (hm : P.follows .mixedOrders = true) (hB : Region.lexTailB .any l.toArray n = true)
    (h : wpQuiet P l.toArray (fun w' => ∃ p : Regrown, w' = grow (redrawn w p.d) p.os) (fun a' => ∀ w', Below w.heap.size w w' → wpList P l.toArray Q (l.drop n) a' w') (l.take n) a) : (Code.region id l.toArray true).wp P Q a w :=
  wp_region_quiet_tail (C := fun w' => ∃ p : Regrown, w' = grow (redrawn w p.d) p.os) n hm hB ⟨⟨w.drawn + 1, #[]⟩, by rw [grow_empty]; rfl⟩ (by
    have e : (fun a' => ∀ w', (∃ p : Regrown, w' = grow (redrawn w p.d) p.os) → wpList P l.toArray Q (l.drop n) a' w') = (fun a' => ∀ w', Below w.heap.size w w' → wpList P l.toArray Q (l.drop n) a' w') := by
      funext a'
      exact propext ⟨fun h w' hb => h w' (regrown_of_below hb), fun h w' ⟨p, hp⟩ => by subst hp; exact h _ (below_regrown w p.d p.os)⟩
    rw [e]
    exact h)
end Go.Proofs.Ytajeledbmnndmaa

namespace Go.Proofs.Ytajeledbmnndmaa
open Go.RowKit Go.Sort

theorem ints_made' (n : Nat) : (madeCells (Value.int IntKind.i64 0).cells (n * 1)).toList = (List.replicate n (0 : Int)).map (Value.int .i64) := by
  have := toList_madeCells_one (.int .i64 0) (n * 1)
  simpa [Value.cells] using this
end Go.Proofs.Ytajeledbmnndmaa

namespace Go.Proofs.Ytajeledbmnndmaa
open Go.ChangeShapes Go.WideShapes Go.ChangeAt Go.RowKit Go.Joins
set_option maxRecDepth 100000

theorem own : ownKnob Try.prog.godebug = none := by kernel_rfl
theorem laidOut : laidOutB Try.prog = true := by kernel_rfl

section
variable {H : Type} {enc : TypeId × Value → H} {W : World} {base b0 : Nat} {spare : Nat → Bool} {held : Bool} {v : Value} {d : DataW H} {p : List MemPlace} {r : Reach}

/-- A value that is an int. -/
def IntV (v : Value) : Prop := ∃ a : Int, v = .int .i64 a ∧ -9223372036854775808 ≤ a ∧ a ≤ 9223372036854775807
theorem open_intv (hv : Value.okWide Try.prog W r b0 3 v) (h : DataW.Trod enc Try.prog W base spare held 3 v d p) : IntV v := by
  obtain ⟨a, rfl, rfl, rfl, w1⟩ := open_int Try.underlying3 hv h
  have := bounds_i64 w1
  exact ⟨a, rfl, this.1, this.2⟩

/-- A value that reads as a slice of ints. -/
def IntsV (W : World) (v : Value) : Prop := ∃ xs, Rd W v xs ∧ I64s xs
theorem ints_of {fuel : Nat} {x : DataW H × List MemPlace} {v : Value} (hf : DataW.trod enc Try.prog W base spare held fuel 22 [v] = some x) : IntsV W v := by
  rcases open_ints Try.underlying22 Try.underlying3 (by kernel_rfl) hf with ⟨hcs, _⟩ | ⟨y, l, c, zs, hcs, _, hl, hm, hz, _, hcell, hwz⟩
  · simp at hcs
    subst hcs
    exact ⟨[], Rd.nil_ W, fun x hx => absurd hx (by simp)⟩
  · simp at hcs
    subst hcs
    exact ⟨zs.take l, Rd.of_row hl hm (by rw [hz]; split <;> omega) hcell, fun x hx => bounds_i64 (hwz x (List.mem_of_mem_take hx))⟩
theorem open_intsv (hv : Value.okWide Try.prog W r b0 22 v) (h : DataW.Trod enc Try.prog W base spare held 22 v d p) : IntsV W v := by
  obtain ⟨a0, len0, cap0, rfl⟩ := okWide_slice Try.underlying22 hv
  obtain ⟨fuel, hf⟩ := h
  exact ints_of hf

/-- A tour: its size, and the slice that reads as its wins. -/
def TourV (W : World) (v : Value) (s : Int) (xs : List Int) : Prop := ∃ sl, v = .agg #[.int .i64 s, sl] ∧ Rd W sl xs
def TourOpen (W : World) (v : Value) : Prop := ∃ s xs, TourV W v s xs ∧ I64s xs ∧ -9223372036854775808 ≤ s ∧ s ≤ 9223372036854775807
theorem cellsTour : Try.prog.cellsOf 24 = 2 := by kernel_rfl
theorem open_tourv (hv : Value.okWide Try.prog W r b0 24 v) (h : DataW.Trod enc Try.prog W base spare held 24 v d p) : TourOpen W v := by
  obtain ⟨c0, c1, y0, y1, m, rfl, rfl, rfl, hy0, hy1⟩ := open_agg2 Try.underlying24 (by kernel_rfl) cellsTour hv h
  obtain ⟨a, e0, rfl, wa⟩ := DataW.trod_int Try.underlying3 hy0
  simp at e0
  subst e0
  obtain ⟨xs, hr, hi⟩ := ints_of hy1
  exact ⟨a, xs, ⟨c1, rfl, hr⟩, hi, bounds_i64 wa⟩
end
end Go.Proofs.Ytajeledbmnndmaa

namespace Go.Proofs.Ytajeledbmnndmaa
open Go.ChangeShapes Go.WideShapes Go.ChangeAt Go.RowKit Go.Joins
set_option maxRecDepth 100000

/-- the value of a result -/
def ResB (a b c d : Int) : Prop := (-9223372036854775808 ≤ a ∧ a ≤ 9223372036854775807) ∧ (-9223372036854775808 ≤ b ∧ b ≤ 9223372036854775807) ∧ (-9223372036854775808 ≤ c ∧ c ≤ 9223372036854775807) ∧ (-9223372036854775808 ≤ d ∧ d ≤ 9223372036854775807)
def ResultV (v : Value) : Prop := ∃ a b c d : Int, v = .agg #[.int .i64 a, .int .i64 b, .int .i64 c, .int .i64 d] ∧ ResB a b c d

end Go.Proofs.Ytajeledbmnndmaa

namespace Go.Proofs.Ytajeledbmnndmaa
open Go.ChangeShapes Go.WideShapes Go.ChangeAt Go.RowKit Go.Joins Go.Deep
set_option maxRecDepth 100000

/-- a result: home, away, given, taken -/
abbrev R4 := Int × Int × Int × Int
def r4At (rs : List R4) (k : Nat) : R4 := rs.getD k (0, 0, 0, 0)
/-- four cells from here on -/
def Four (w : World) (b o : Nat) (r : R4) : Prop := w.cell? ⟨b, o, none⟩ = some (.int .i64 r.1) ∧ w.cell? ⟨b, o + 1, none⟩ = some (.int .i64 r.2.1) ∧ w.cell? ⟨b, o + 2, none⟩ = some (.int .i64 r.2.2.1) ∧ w.cell? ⟨b, o + 3, none⟩ = some (.int .i64 r.2.2.2)
theorem Four.keep {w w' : World} {b o : Nat} {r : R4} (h : Four w b o r) (hk : ∀ p : Addr, p.block = b → w'.cell? p = w.cell? p) : Four w' b o r :=
  ⟨(hk _ rfl).trans h.1, (hk _ rfl).trans h.2.1, (hk _ rfl).trans h.2.2.1, (hk _ rfl).trans h.2.2.2⟩
/-- THE SLICE VALUE v READS AS THE RESULTS rs. -/
def RdR (w : World) (v : Value) (rs : List R4) : Prop :=
  ∃ (A : Option Addr) (c : Nat), v = .slice A rs.length c ∧ rs.length ≤ c ∧ c ≤ maxLen ∧
    (0 < rs.length → ∃ b off, A = some ⟨b, off, none⟩ ∧ b < w.heap.size ∧ ∀ k, k < rs.length → Four w b (off + k * 4) (r4At rs k))
theorem RdR.keep {w w' : World} {v : Value} {rs : List R4} (h : RdR w v rs) (hs : w.heap.size ≤ w'.heap.size) (hk : ∀ p : Addr, p.block < w.heap.size → w'.cell? p = w.cell? p) : RdR w' v rs := by
  obtain ⟨A, c, rfl, hl, hc, hb⟩ := h
  refine ⟨A, c, rfl, hl, hc, fun h0 => ?_⟩
  obtain ⟨b, off, rfl, hlt, hcell⟩ := hb h0
  exact ⟨b, off, rfl, by omega, fun k hk' => (hcell k hk').keep fun p hp => hk p (by omega)⟩
theorem RdR.below {w w' : World} {v : Value} {rs : List R4} (h : RdR w v rs) (hb : Below w.heap.size w w') : RdR w' v rs := h.keep hb.size fun _ hp => hb.cell hp
theorem RdR.alloc {w : World} {v : Value} {rs : List R4} (h : RdR w v rs) (o : Obj) : RdR (w.alloc o) v rs := h.below ((Below.refl _ _).alloc (Nat.le_refl _) _)
theorem RdR.nil_ (w : World) : RdR w (.slice none 0 0) [] := ⟨none, 0, rfl, Nat.le_refl _, by unfold maxLen; omega, fun h => absurd h (by simp)⟩
def I64R (rs : List R4) : Prop := ∀ r ∈ rs, ResB r.1 r.2.1 r.2.2.1 r.2.2.2

/-- the cells of the results, one behind the other -/
def cells4 (r : R4) : List Value := [.int .i64 r.1, .int .i64 r.2.1, .int .i64 r.2.2.1, .int .i64 r.2.2.2]
def flat4 (rs : List R4) : List Value := rs.flatMap cells4
theorem flat4_length (rs : List R4) : (flat4 rs).length = rs.length * 4 := by
  induction rs with
  | nil => rfl
  | cons r rs ih => simp only [flat4, List.flatMap_cons, List.length_append, List.length_cons] at *; rw [ih]; simp [cells4]; omega
theorem flat4_append (rs ts : List R4) : flat4 (rs ++ ts) = flat4 rs ++ flat4 ts := by simp [flat4]
theorem flat4_at (rs : List R4) (k : Nat) (hk : k < rs.length) (i : Nat) (hi : i < 4) : (flat4 rs)[k * 4 + i]? = (cells4 (r4At rs k))[i]? := by
  induction rs generalizing k with
  | nil => simp at hk
  | cons r rs ih =>
    have e : flat4 (r :: rs) = cells4 r ++ flat4 rs := by simp [flat4]
    rw [e]
    cases k with
    | zero =>
      rw [List.getElem?_append_left (by simp [cells4]; omega)]
      simp [r4At]
    | succ k =>
      rw [List.getElem?_append_right (by simp [cells4]; omega)]
      have := ih k (by simpa using hk)
      rw [show (k + 1) * 4 + i - (cells4 r).length = k * 4 + i by simp [cells4]; omega, this]
      simp [r4At]

end Go.Proofs.Ytajeledbmnndmaa

namespace Go.Proofs.Ytajeledbmnndmaa
open Go.RowKit Go.Sort

/-- what is left behind so many -/
def szI (n : Nat) (left : Int) : Int := if 0 ≤ left - n then left - n else -1
theorem szI_yes {n : Nat} {left : Int} (h : 0 ≤ left - n) : szI n left = left - n := by unfold szI; rw [if_pos h]
theorem szI_no {n : Nat} {left : Int} (h : ¬ 0 ≤ left - n) : szI n left = -1 := by unfold szI; rw [if_neg h]
theorem read_back {w1 : World} {g h : Nat} (hne : h ≠ g) {x y u v z : Value} (c0 : w1.cell? ⟨g, 0, none⟩ = some x) (c1 : w1.cell? ⟨g, 1, none⟩ = some y) :
    (((w1.setCell ⟨h, 1, none⟩ z).setCell ⟨g, 0, none⟩ u).setCell ⟨g, 1, none⟩ v).cell? ⟨g, 0, none⟩ = some u ∧ (((w1.setCell ⟨h, 1, none⟩ z).setCell ⟨g, 0, none⟩ u).setCell ⟨g, 1, none⟩ v).cell? ⟨g, 1, none⟩ = some v := by
  have d0 : (w1.setCell ⟨h, 1, none⟩ z).cell? ⟨g, 0, none⟩ = some x := (World.cell?_setCell_other _ _ _ _ (by simp)).trans c0
  have d1 : (w1.setCell ⟨h, 1, none⟩ z).cell? ⟨g, 1, none⟩ = some y := (World.cell?_setCell_other _ _ _ _ (by simp)).trans c1
  have f0 := World.cell?_setCell_same _ _ u d0
  have f1 : ((w1.setCell ⟨h, 1, none⟩ z).setCell ⟨g, 0, none⟩ u).cell? ⟨g, 1, none⟩ = some y := (World.cell?_setCell_other _ _ _ _ (by simp)).trans d1
  exact ⟨(World.cell?_setCell_other _ _ _ _ (by simp)).trans f0, World.cell?_setCell_same _ _ v f1⟩
theorem setCell_grown (w : World) (p : Addr) (u : Value) : w.grownBy (w.setCell p u) (some p.block) :=
  ⟨rfl, rfl, rfl, by simp [World.setCell], fun k hk hne => Below.heap_setCell _ _ _ _ (fun e => hne (by rw [e]))⟩
theorem own_ne {v : Value} {b g : Nat} (h : ∀ k, v.ownBlock = some k → b ≤ k) (hg : g < b) : v.ownBlock = none ∨ v.ownBlock ≠ some g := by
  rcases e : v.ownBlock with _ | k
  · exact .inl rfl
  · right
    have := h k e
    intro h2
    injection h2
    omega
end Go.Proofs.Ytajeledbmnndmaa

namespace Go.Proofs.Ytajeledbmnndmaa
open Go.ChangeShapes Go.WideShapes Go.ChangeAt Go.RowKit Go.Joins Go.Deep Go.Sort
set_option maxRecDepth 100000


theorem flat4_set (rs : List R4) (k : Nat) (hk : k < rs.length) (r : R4) :
    ((((flat4 rs).set (k * 4) (.int .i64 r.1)).set (k * 4 + 1) (.int .i64 r.2.1)).set (k * 4 + 2) (.int .i64 r.2.2.1)).set (k * 4 + 3) (.int .i64 r.2.2.2) = flat4 (rs.set k r) := by
  induction rs generalizing k with
  | nil => simp at hk
  | cons q rs ih =>
    cases k with
    | zero => simp [flat4, cells4]
    | succ k =>
      have e : flat4 (q :: rs) = cells4 q ++ flat4 rs := by simp [flat4]
      have l : (cells4 q).length = 4 := rfl
      have s : ∀ (L : List Value) (i : Nat) (u : Value), (cells4 q ++ L).set ((k + 1) * 4 + i) u = cells4 q ++ L.set (k * 4 + i) u := fun L i u => by
        rw [List.set_append_right _ _ (by omega), l, show (k + 1) * 4 + i - 4 = k * 4 + i by omega]
      have s0 : ∀ (L : List Value) (u : Value), (cells4 q ++ L).set ((k + 1) * 4) u = cells4 q ++ L.set (k * 4) u := fun L u => s L 0 u
      rw [e, s0, s, s, s, ih k (by simpa using hk), List.set_cons_succ]
      simp [flat4]
end Go.Proofs.Ytajeledbmnndmaa

namespace Go.Proofs.Ytajeledbmnndmaa
open Go.RowKit Go.Sort

/-- a struct {int, slice} in a box that may be stored to -/
def BoxF (W : World) (g : Nat) (s : Int) (v : Value) : Prop := TBox W g s v ∧ ∀ k, W.frozen? ⟨g, k, none⟩ = false
theorem BoxF.new (w : World) (s : Int) (v : Value) (t : TypeId) : BoxF (w.alloc (.cells #[.int .i64 s, v] t)) w.heap.size s v := ⟨TBox.new w s v t, fun k => by simp⟩
theorem BoxF.gt {W : World} {g : Nat} {s : Int} {v : Value} (h : BoxF W g s v) : g < W.heap.size := World.block_lt_of_cell? W _ h.1.1
theorem BoxF.below {W W' : World} {g : Nat} {s : Int} {v : Value} (h : BoxF W g s v) (hb : Below W.heap.size W W') : BoxF W' g s v :=
  ⟨h.1.below hb, fun k => ((bcell hb).2 _ _ h.gt).trans (h.2 k)⟩
theorem BoxF.kept {W W' : World} {g : Nat} {s : Int} {v : Value} {row : Option Nat} (h : BoxF W g s v) (hg : W.grownBy W' row) (hne : some g ≠ row) : BoxF W' g s v :=
  ⟨h.1.kept hg hne, fun k => (World.frozen?_of_block (hg.block g h.gt hne)).trans (h.2 k)⟩
theorem BoxF.set1 {W : World} {g : Nat} {s : Int} {v : Value} (h : BoxF W g s v) (v' : Value) : BoxF (W.setCell ⟨g, 1, none⟩ v') g s v' :=
  ⟨⟨(World.cell?_setCell_other _ _ _ _ (by simp)).trans h.1.1, World.cell?_setCell_same _ _ _ h.1.2⟩, fun k => by have := h.2 k; simpa [go_sem] using this⟩
theorem BoxF.set01 {W : World} {g : Nat} {s : Int} {v : Value} (h : BoxF W g s v) (s' : Int) (v' : Value) : BoxF ((W.setCell ⟨g, 0, none⟩ (.int .i64 s')).setCell ⟨g, 1, none⟩ v') g s' v' :=
  ⟨⟨(World.cell?_setCell_other _ _ _ _ (by simp)).trans (World.cell?_setCell_same _ _ _ h.1.1), World.cell?_setCell_same _ _ _ ((World.cell?_setCell_other _ _ _ _ (by simp)).trans h.1.2)⟩, fun k => by have := h.2 k; simpa [go_sem] using this⟩
end Go.Proofs.Ytajeledbmnndmaa

