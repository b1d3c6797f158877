/- The reference's TourOk: it answers as the program's. -/
import Derived.Test.YtceeplhkokajhabTourOk
namespace Go.Proofs.Ytceeplhkokajhab
open Go.RowKit Go.Sort

theorem bit_eq_walk (x y : Int) (b a : Nat) : (bits BinOp.and IntKind.i64 (x / 2 ^ b) 1 == bits BinOp.and IntKind.i64 (y / 2 ^ a) 1) = (bitI x b == bitI y a) := by
  rw [i64_and_one, i64_and_one, bitI, bitI, Bool.eq_iff_iff]
  simp only [beq_iff_eq, decide_eq_decide]
  omega

set_option maxHeartbeats 2000000 in
theorem specTourOk (s : Int) (sl : Value) (xs : List Int) (w : World) (h : Rd w sl xs) :
    Calls Try.prog 37 #[.agg #[.int .i64 s, sl]] w fun e w' => e = .returned (.bool (tourB s xs)) ∧ Below w.heap.size w w' := by
  have HR := Lib.hid h
  obtain ⟨A, c, rfl, hl1, hm1, hc1⟩ := h
  unfold maxLen at hm1
  have H3 := Lib.hid hc1
  clear hc1
  generalize hn : xs.length = n at *
  have HN := Lib.hid hn
  clear hn
  rcases hS : inB s 1 8 with _ | _
  · go_enter Try.func37, Try.ntmps37
    go_wp2_with (go_at_call 54; refine (l01In_any _ _ _ _).mono ?_; rintro e w1 ⟨rfl, rfl⟩)
    go_ret
    exact ⟨ret_bool (tourB_false.2 fun hp => inB_false.1 hS hp.1).symm, below_alloc1 _ _⟩
  · have hs := inB_true.1 hS
    by_cases hl : (n : Int) = s
    · subst hl
      have hne : ((n : Int) != (n : Int)) = false := by simp
      have HV := Lib.hid (ok_hi n (by omega))
      go_enter Try.func37, Try.ntmps37
      go_wp2_with (go_at_call 54; refine (l01In_any _ _ _ _).mono ?_; rintro e w1 ⟨rfl, rfl⟩)
      have b0 := below_alloc1 w (.cells #[.int .i64 n, .slice A n c] 27)
      have x0 := TBox.new w n (.slice A n c) 27
      generalize w.alloc (.cells #[.int .i64 n, .slice A n c] 27) = W at *
      have HX := Lib.hid x0
      have HB := Lib.hid b0
      clear x0 b0
      go_loopw [21] (fun i wr => ∃ (a q : Nat), a ≤ n ∧ i = .int .i64 a ∧ wr = W.drewN q ∧ Hid ((∀ a', a' < a → okAt xs a') ∧ ∀ a', a' < a → 0 ≤ xs.getD a' 0 ∧ xs.getD a' 0 ≤ 2 ^ n - 1)) (fun i _ => n - (intOf i).toNat)
      case atStart => exact ⟨0, 0, Nat.zero_le _, rfl, rfl, fun a h => absurd h (by omega), fun a h => absurd h (by omega)⟩
      case round =>
        obtain ⟨a, q, ha, rfl, rfl, HP⟩ := hrel
        by_cases hlt : a < n
        · obtain ⟨g, off, rfl, hg, hx⟩ := H3.out (by omega)
          have hx' : ∀ k, k < n → W.cell? ⟨g, off + k, none⟩ = some (.int .i64 (xs.getD k 0)) := fun k hk => (HB.out.cell (by exact hg)).trans (hx k hk)
          have hxa := hx' a hlt
          have HC := Lib.hid hx'
          clear hx hx'
          have y0 := HX.out.1
          have y1 := HX.out.2
          rcases hA : inB (xs[a]?.getD 0) 0 (wrap64 (wrap64 (2 ^ n) - 1)) with _ | _
          · go_wp2_with (go_at_call 54; refine (l01In_any _ _ _ _).mono ?_; rintro e w1 ⟨rfl, rfl⟩)
            go_ret
            refine ⟨ret_bool (tourB_false.2 fun hp => ?_).symm, below_drewN HB.out _⟩
            rw [HV.out] at hA
            refine inB_false.1 hA (hp.2.2.1 _ ?_)
            rw [List.getElem?_eq_getElem (by rw [HN.out]; exact hlt)]; exact List.getElem_mem _
          · rcases hB : bitI (xs[a]?.getD 0) a with _ | _
            · have hB' : (bits BinOp.and IntKind.i64 (xs[a]?.getD 0 / 2 ^ a) 1 == 1) = false := by rw [bit_walk]; exact hB
              go_wp2_with (go_at_call 54; refine (l01In_any _ _ _ _).mono ?_; rintro e w1 ⟨rfl, rfl⟩)
              go_loopw [5] (fun i wr => ∃ (b q : Nat), b ≤ a ∧ i = .int .i64 b ∧ wr = W.drewN q ∧ Hid (∀ b', b' < b → bitI (xs.getD a 0) b' ≠ bitI (xs.getD b' 0) a)) (fun i _ => a - (intOf i).toNat)
              case atStart => exact ⟨0, q, Nat.zero_le _, rfl, rfl, fun b h => absurd h (by omega)⟩
              case round =>
                obtain ⟨b, q', hb, rfl, rfl, HQ⟩ := hrel
                by_cases hltb : b < a
                · have hxb := HC.out b (by omega)
                  rcases hE : (bits BinOp.and IntKind.i64 (xs[a]?.getD 0 / 2 ^ b) 1 == bits BinOp.and IntKind.i64 (xs[b]?.getD 0 / 2 ^ a) 1) with _ | _
                  all_goals
                    go_wp2
                    go_quiet (fail)
                    go_wp2
                  · go_roundw
                    case rel =>
                      refine ⟨b + 1, _, by omega, by go_num, rfl, fun b' hb' => ?_⟩
                      by_cases h : b' < b
                      · exact HQ.out b' h
                      · obtain rfl : b' = b := by omega
                        rw [bit_eq_walk] at hE
                        simpa using hE
                    case measure => simp [intOf]; omega
                  · go_ret
                    refine ⟨ret_bool (tourB_false.2 fun hp => ?_).symm, below_drewN (below_drewN HB.out _) _⟩
                    have := (hp.2.2.2 a (by rw [HN.out]; exact hlt)).2 b hltb
                    rw [bit_eq_walk] at hE
                    simp at hE this
                    exact this hE
                · have hge : ¬ ((b : Int) < (a : Int)) := by omega
                  go_wp2
                  go_roundw
                  case rel =>
                    refine ⟨a + 1, _, by omega, by go_num, rfl, fun a' ha' => ?_, fun a' ha' => ?_⟩
                    · by_cases h : a' < a
                      · exact HP.out.1 a' h
                      · obtain rfl : a' = a := by omega
                        exact ⟨by simpa using hB, fun b' hb' => HQ.out b' (by omega)⟩
                    · by_cases h : a' < a
                      · exact HP.out.2 a' h
                      · obtain rfl : a' = a := by omega
                        rw [HV.out] at hA
                        simpa using inB_true.1 hA
                  case measure => simp [intOf]; omega
            · have hB' : (bits BinOp.and IntKind.i64 (xs[a]?.getD 0 / 2 ^ a) 1 == 1) = true := by rw [bit_walk]; exact hB
              go_wp2_with (go_at_call 54; refine (l01In_any _ _ _ _).mono ?_; rintro e w1 ⟨rfl, rfl⟩)
              go_ret
              refine ⟨ret_bool (tourB_false.2 fun hp => ?_).symm, below_drewN HB.out _⟩
              have := (hp.2.2.2 a (by rw [HN.out]; exact hlt)).1
              simp [hB] at this
        · obtain rfl : a = n := by omega
          go_wp2
          go_ret
          refine ⟨ret_bool (tourB_true.2 ⟨hs, by rw [HN.out], fun x hx => ?_, by rw [HN.out]; exact HP.out.1⟩).symm, below_drewN HB.out _⟩
          obtain ⟨k, hk, rfl⟩ := List.mem_iff_getElem.1 hx
          have := HP.out.2 k (by rw [← HN.out]; exact hk)
          simpa [hk] using this
    · have hne : ((n : Int) != s) = true := by simpa using hl
      have HL := Lib.hid hl
      clear hl
      go_enter Try.func37, Try.ntmps37
      go_wp2_with (go_at_call 54; refine (l01In_any _ _ _ _).mono ?_; rintro e w1 ⟨rfl, rfl⟩)
      go_ret
      exact ⟨ret_bool (tourB_false.2 fun hp => HL.out (by rw [← hp.2.1, HN.out])).symm, below_alloc1 _ _⟩
end Go.Proofs.Ytceeplhkokajhab
