/- The program's TourOk. -/
import Derived.Test.YtdmneccfbfdloaaTour
namespace Go.Proofs.Ytdmneccfbfdloaa
open Go.RowKit Go.Sort

/-- what is asked of player a: no win over itself; against each b before it just one of the two wins -/
def okAt (xs : List Int) (a : Nat) : Prop := bitI (xs.getD a 0) a = false ∧ ∀ b, b < a → bitI (xs.getD a 0) b ≠ bitI (xs.getD b 0) a
def tourP (s : Int) (xs : List Int) : Prop := (1 ≤ s ∧ s ≤ 8) ∧ (xs.length : Int) = s ∧ (∀ x ∈ xs, 0 ≤ x ∧ x ≤ 2 ^ s.toNat - 1) ∧ ∀ a, a < xs.length → okAt xs a
noncomputable def tourB (s : Int) (xs : List Int) : Bool := @decide (tourP s xs) (Classical.propDecidable _)
theorem tourB_true {s : Int} {xs : List Int} : tourB s xs = true ↔ tourP s xs := by unfold tourB; simp
theorem tourB_false {s : Int} {xs : List Int} : tourB s xs = false ↔ ¬ tourP s xs := by rw [← tourB_true]; simp

theorem shl_i64 (s : Int) (h : 0 ≤ s ∧ s ≤ 61) : IntKind.i64.wrap (1 * 2 ^ s.toNat) = 2 ^ s.toNat := by
  rw [i64_shl_one _ (by omega)]; simp
theorem pow_small (s : Int) (h : 0 ≤ s ∧ s ≤ 8) : (1 : Int) ≤ 2 ^ s.toNat ∧ (2 : Int) ^ s.toNat ≤ 256 := by
  have h1 : 2 ^ s.toNat ≤ 2 ^ 8 := Nat.pow_le_pow_right (by decide) (by omega)
  have h2 : 0 < 2 ^ s.toNat := Nat.two_pow_pos _
  have h3 : ((2 : Int) ^ s.toNat) = ((2 ^ s.toNat : Nat) : Int) := by simp
  rw [h3]
  rw [show (2 : Nat) ^ 8 = 256 from rfl] at h1
  omega

theorem ok_hi (n : Nat) (h : n ≤ 8) : wrap64 (wrap64 (2 ^ n) - 1) = 2 ^ n - 1 := by
  have h1 : 2 ^ n ≤ 2 ^ 8 := Nat.pow_le_pow_right (by decide) h
  have h3 : ((2 : Int) ^ n) = ((2 ^ n : Nat) : Int) := by simp
  rw [h3]
  rw [show (2 : Nat) ^ 8 = 256 from rfl] at h1
  have h2 : 0 < 2 ^ n := Nat.two_pow_pos _
  generalize 2 ^ n = p at *
  rw [IntWalk.wrap64_in (p : Int) (by omega), IntWalk.wrap64_in _ (by omega)]
set_option maxHeartbeats 2000000 in
theorem implTourOk (s : Int) (sl : Value) (xs : List Int) (w : World) (h : Rd w sl xs) :
    Calls Try.prog 63 #[.agg #[.int .i64 s, sl]] w fun e w' => e = .returned (.bool (tourB s xs)) ∧ Below w.heap.size w w' := by
  have HR := Lib.hid h
  obtain ⟨A, c, rfl, hl1, hm1, hc1⟩ := h
  clear hc1
  unfold maxLen at hm1
  rcases hS : inB s 1 8 with _ | _
  · go_enter Try.func63, Try.ntmps63
    go_wp2_with fail
    have b0 := below_alloc1 w (.cells #[.int .i64 s, .slice A xs.length c] 64)
    have x0 := TBox.new w s (.slice A xs.length c) 64
    generalize w.alloc (.cells #[.int .i64 s, .slice A xs.length c] 64) = W at *
    have k1 := quiet_below (w := W) (fun W _ => of_same (within_any s 1 8 W))
    have y0 := cell_regrown x0.1
    have y1 := cell_regrown x0.2
    have HB := Lib.hid b0
    clear x0 b0
    refine wp_region_below (by kernel_rfl) (by kernel_rfl) ?_
    repeat (go_big_quiet_step (first | (with_reducible exact k1 _ _)))
    refine wpQuiet_nil ?_
    intro w1 hb1
    have HB1 := Lib.hid (Below.then HB.out hb1)
    clear hb1 k1 y0 y1 HB
    go_wp2
    go_ret
    refine ⟨ret_bool (tourB_false.2 fun hp => ?_).symm, HB1.out⟩
    have := inB_false.1 hS
    exact this hp.1
  · have hs := inB_true.1 hS
    generalize hn : xs.length = n at *
    have HN := Lib.hid hn
    clear hn
    by_cases hl : (n : Int) = s
    · subst hl
      have hne : ((n : Int) != (n : Int)) = false := by simp
      have HV := Lib.hid (ok_hi n (by omega))
      rcases hA : allB xs 0 (wrap64 (wrap64 (2 ^ n) - 1)) with _ | _
      all_goals
        go_enter Try.func63, Try.ntmps63
        go_wp2_with fail
        have b0 := below_alloc1 w (.cells #[.int .i64 n, .slice A n c] 64)
        have x0 := TBox.new w n (.slice A n c) 64
        generalize w.alloc (.cells #[.int .i64 n, .slice A n c] 64) = W at *
        have k1 := quiet_below (w := W) (fun W _ => of_same (within_any n 1 8 W))
        rw [hS] at k1
        have k2 := quiet_below (w := W) (fun W' hb => allWithin_any (.slice A n c) xs 0 (wrap64 (wrap64 (2 ^ n) - 1)) W' ((HR.out.below b0).below hb))
        rw [hA] at k2
        have y0 := cell_regrown x0.1
        have y1 := cell_regrown x0.2
        have HB := Lib.hid b0
        have HX := Lib.hid x0
        clear x0 b0
        refine wp_region_below (by kernel_rfl) (by kernel_rfl) ?_
        repeat (go_big_quiet_step (first | (with_reducible exact k1 _ _) | (with_reducible exact k2 _ _)))
        refine wpQuiet_nil ?_
        intro w1 hb1
        have HX1 := Lib.hid (HX.out.below hb1)
        have HB1 := Lib.hid (Below.then HB.out hb1)
        clear hb1 k1 y0 y1 HB k2 HX
        have y0 := HX1.out.1
        have y1 := HX1.out.2
      · go_wp2
        go_ret
        refine ⟨ret_bool (tourB_false.2 fun hp => ?_).symm, HB1.out⟩
        rw [HV.out] at hA
        have := hp.2.2.1
        simp [allB] at hA
        obtain ⟨x, hx, hb⟩ := hA
        exact inB_false.1 hb (this x hx)
      · go_wp2
        have HA : Hid (∀ x ∈ xs, 0 ≤ x ∧ x ≤ 2 ^ n - 1) := by
          rw [HV.out] at hA
          simp [allB] at hA
          exact fun x hx => inB_true.1 (hA x hx)
        clear hA
        go_loopw [29] (fun i wr => ∃ a : Nat, a ≤ n ∧ i = .int .i64 a ∧ TBox wr w.heap.size n (.slice A n c) ∧ Below w.heap.size w wr ∧ Hid (∀ a', a' < a → okAt xs a')) (fun i _ => n - (intOf i).toNat)
        case atStart => exact ⟨0, Nat.zero_le _, rfl, HX1.out, HB1.out, fun a h => absurd h (by omega)⟩
        case round =>
          obtain ⟨a, ha, rfl, hx, hb, HP⟩ := hrel
          have HX := Lib.hid hx
          have HB := Lib.hid hb
          clear hx hb y0 y1 HX1 HB1
          by_cases hlt : a < n
          · go_wp2
            obtain ⟨wo, rfl⟩ : ∃ wo : World, wo = wr := ⟨_, rfl⟩
            go_loopw [33] (fun i wr => ∃ b : Nat, b ≤ a ∧ i = .int .i64 b ∧ TBox wr w.heap.size n (.slice A n c) ∧ Below w.heap.size w wr ∧ Hid (∀ b', b' < b → bitI (xs.getD a 0) b' ≠ bitI (xs.getD b' 0) a)) (fun i _ => a - (intOf i).toNat)
            case atStart => exact ⟨0, Nat.zero_le _, rfl, HX.out, HB.out, fun b h => absurd h (by omega)⟩
            case round =>
              obtain ⟨b, hb, rfl, hx, hbb, HQ⟩ := hrel
              have HX' := Lib.hid hx
              have HB' := Lib.hid hbb
              clear hx hbb HX HB
              by_cases hltb : b < a
              · go_wp2
                have y0 := cell_regrown HX'.out.1
                have y1 := cell_regrown HX'.out.2
                have kab : ∀ d os, Calls Try.prog 75 #[.agg #[.int .i64 n, .slice A n c], .int .i64 a, .int .i64 b] (grow (redrawn wr d) os) fun e w'' => e = .returned (.bool (bitI (xs.getD a 0) b)) ∧ ∃ p : Regrown, w'' = grow (redrawn wr p.d) p.os :=
                  quiet_below (fun W hW => beats_any n _ xs a b W ((HR.out.below HB'.out).below hW) (by omega) (by rw [HN.out]; omega) (by omega) (by omega))
                have kba : ∀ d os, Calls Try.prog 75 #[.agg #[.int .i64 n, .slice A n c], .int .i64 b, .int .i64 a] (grow (redrawn wr d) os) fun e w'' => e = .returned (.bool (bitI (xs.getD b 0) a)) ∧ ∃ p : Regrown, w'' = grow (redrawn wr p.d) p.os :=
                  quiet_below (fun W hW => beats_any n _ xs b a W ((HR.out.below HB'.out).below hW) (by omega) (by rw [HN.out]; omega) (by omega) (by omega))
                refine wp_region_below (by kernel_rfl) (by kernel_rfl) ?_
                repeat (go_big_quiet_step (first | (with_reducible exact kab _ _) | (with_reducible exact kba _ _)))
                refine wpQuiet_nil ?_
                intro w2 hb2
                have HX2 := Lib.hid (HX'.out.below hb2)
                have HB2 := Lib.hid (Below.then HB'.out hb2)
                clear hb2 y0 y1 kab kba HX' HB'
                go_wp2
                · have hq : (bitI (xs[a]?.getD 0) b == bitI (xs[b]?.getD 0) a) = true := by assumption
                  go_ret
                  refine ⟨ret_bool (tourB_false.2 fun hp => ?_).symm, HB2.out⟩
                  have := (hp.2.2.2 a (by rw [HN.out]; exact hlt)).2 b hltb
                  simp at hq this
                  exact this hq
                · have hq : (bitI (xs[a]?.getD 0) b == bitI (xs[b]?.getD 0) a) = false := by assumption
                  go_roundw
                  case rel =>
                    refine ⟨b + 1, by omega, by go_num, HX2.out, HB2.out, fun b' hb' => ?_⟩
                    by_cases h : b' < b
                    · exact HQ.out b' h
                    · obtain rfl : b' = b := by omega
                      simpa using hq
                  case measure => simp [intOf]; omega
              · have hge : ¬ ((b : Int) < (a : Int)) := by omega
                have y0 := HX'.out.1
                have y1 := HX'.out.2
                have kaa : ∀ W, Below wr.heap.size wr W → Calls Try.prog 75 #[.agg #[.int .i64 n, .slice A n c], .int .i64 a, .int .i64 a] W fun e w'' => e = .returned (.bool (bitI (xs.getD a 0) a)) ∧ Below W.heap.size W w'' :=
                  fun W hW => beats_any n _ xs a a W ((HR.out.below HB'.out).below hW) (by omega) (by rw [HN.out]; omega) (by omega) (by omega)
                have KAA := Lib.hid (kaa _ (Below.refl _ _))
                clear kaa
                go_wp2_with (go_at_call 75; refine KAA.out.mono ?_; rintro e w2 ⟨rfl, hb2⟩; have HX2 := Lib.hid (HX'.out.below hb2); have HB2 := Lib.hid (Below.then HB'.out hb2); clear hb2)
                · have hq : bitI (xs[a]?.getD 0) a = true := by assumption
                  go_ret
                  refine ⟨ret_bool (tourB_false.2 fun hp => ?_).symm, HB2.out⟩
                  have := (hp.2.2.2 a (by rw [HN.out]; exact hlt)).1
                  simp [hq] at this
                · have hq : bitI (xs[a]?.getD 0) a = false := by assumption
                  go_roundw
                  case rel =>
                    refine ⟨a + 1, by omega, by go_num, HX2.out, HB2.out, fun a' ha' => ?_⟩
                    by_cases h : a' < a
                    · exact HP.out a' h
                    · obtain rfl : a' = a := by omega
                      exact ⟨by simpa using hq, fun b' hb' => HQ.out b' (by omega)⟩
                  case measure => simp [intOf]; omega
          · obtain rfl : a = n := by omega
            go_wp2
            go_ret
            refine ⟨ret_bool (tourB_true.2 ⟨hs, by rw [HN.out], HA.out, by rw [HN.out]; exact HP.out⟩).symm, HB.out⟩
    · have hne : ((n : Int) != s) = true := by simpa using hl
      have HL := Lib.hid hl
      clear hl
      go_enter Try.func63, Try.ntmps63
      go_wp2_with fail
      have b0 := below_alloc1 w (.cells #[.int .i64 s, .slice A n c] 64)
      have x0 := TBox.new w s (.slice A n c) 64
      generalize w.alloc (.cells #[.int .i64 s, .slice A n c] 64) = W at *
      have k1 := quiet_below (w := W) (fun W _ => of_same (within_any s 1 8 W))
      have y0 := cell_regrown x0.1
      have y1 := cell_regrown x0.2
      have HB := Lib.hid b0
      clear x0 b0
      refine wp_region_below (by kernel_rfl) (by kernel_rfl) ?_
      repeat (go_big_quiet_step (first | (with_reducible exact k1 _ _)))
      refine wpQuiet_nil ?_
      intro w1 hb1
      have HB1 := Lib.hid (Below.then HB.out hb1)
      clear hb1 k1 y0 y1 HB
      go_wp2
      go_ret
      refine ⟨ret_bool (tourB_false.2 fun hp => ?_).symm, HB1.out⟩
      exact HL.out (by rw [← hp.2.1, HN.out])
end Go.Proofs.Ytdmneccfbfdloaa
