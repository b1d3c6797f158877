/- FnExactTrianglesAt: the reference's list, and the functions. -/
import Derived.Test.YtoblhnfnjagajaaTri2
import Derived.Test.YtoblhnfnjagajaaTourOkS
namespace Go.Proofs.Ytoblhnfnjagajaa
open Go.RowKit Go.Sort
set_option maxRecDepth 100000
set_option maxHeartbeats 4000000 in
theorem l04All_any (s : Int) (sl : Value) (xs : List Int) (w : World) (h : Rd w sl xs) (hp : tourP s xs) :
    Calls Try.prog 113 #[.agg #[.int .i64 s, sl]] w fun e w' => ∃ v', e = .returned v' ∧ OwnRows w' w.heap.size v' (triA xs xs.length xs.length) ∧ Below w.heap.size w w' := by
  have HR := Lib.hid h
  obtain ⟨A, cA, rfl, -, -, -⟩ := h
  obtain ⟨n, rfl⟩ : ∃ n : Nat, s = n := ⟨s.toNat, by have := hp.1; omega⟩
  have h1 : 1 ≤ n := by have := hp.1; omega
  have h8 : n ≤ 8 := by have := hp.1; omega
  have hl : xs.length = n := by have := hp.2.1; omega
  have HSELF := Lib.hid (fun (b : Nat) (hb : b < xs.length) => (hp.2.2.2 b hb).1)
  have HL := Lib.hid hl
  clear hl hp
  have HP : Hid (∀ a b c, triP xs a b c = (decide (a < b) && (decide (a < c) && (btI xs a b && (btI xs b c && btI xs c a))))) := fun _ _ _ => rfl
  have hba : ∀ (p q : Nat) (W : World), p < n → q < n → Below w.heap.size w W → Calls Try.prog 130 #[.agg #[.int .i64 n, .slice A xs.length cA], .int .i64 p, .int .i64 q] W fun e w' => e = .returned (.bool (btI xs p q)) ∧ Below W.heap.size W w' := fun p q W hp hq hW =>
    l02Beats_any n (.slice A xs.length cA) xs p q W (HR.out.below hW) (by omega) (by rw [HL.out]; omega) (by omega) (by omega)
  have HBA := Lib.hid hba
  clear hba
  have x0 := (TBox.new w n (.slice A xs.length cA) 65).below (below_alloc1 _ (.cells #[] 45))
  have yz0 := x0.1
  have HX0 := Lib.hid x0
  have HB0 := Lib.hid ((below_alloc1 w (.cells #[.int .i64 n, .slice A xs.length cA] 65)).alloc (by simp) (.cells #[] 45))
  have o0 := OwnRows.lit0 (w.alloc (.cells #[.int .i64 n, .slice A xs.length cA] 65)) (w.heap.size + 1) (by simp)
  simp only [World.size_alloc] at o0
  have HO0 := Lib.hid o0
  clear x0 o0
  go_enter Try.func113, Try.ntmps113
  go_wp2
  go_loopw [3, 4] (fun v i wr => ∃ a : Nat, a ≤ n ∧ i = .int .i64 a ∧ OwnRows wr (w.heap.size + 1) v (triA xs n a) ∧ TBox wr w.heap.size n (.slice A xs.length cA) ∧ Below w.heap.size w wr) (fun _ i _ => n - (intOf i).toNat)
  case atStart => exact ⟨0, by omega, rfl, HO0.out, HX0.out, HB0.out⟩
  case round =>
    obtain ⟨wa, rfl⟩ : ∃ x, x = wr := ⟨_, rfl⟩
    obtain ⟨a, ha, rfl, ho, hx, hb⟩ := hrel
    have HO := Lib.hid ho
    have HX := Lib.hid hx
    have HB := Lib.hid hb
    have ya0 := hx.1
    clear ho hx hb yz0
    by_cases hlta : a < n
    · have HSA := Lib.hid (triA_succ xs n a)
      have HLB := Lib.hid (triB_low xs n a (a + 1) (Nat.le_refl _))
      go_wp2
      go_loopw [3, 5] (fun v i wr => ∃ b : Nat, a < b ∧ b ≤ n ∧ i = .int .i64 b ∧ OwnRows wr (w.heap.size + 1) v (triA xs n a ++ triB xs n a b) ∧ TBox wr w.heap.size n (.slice A xs.length cA) ∧ Below w.heap.size w wr) (fun _ i _ => n - (intOf i).toNat)
      case atStart => exact ⟨a + 1, by omega, by omega, by go_num, by rw [HLB.out, List.append_nil]; exact HO.out, HX.out, HB.out⟩
      case round =>
        obtain ⟨wb, rfl⟩ : ∃ x, x = wr := ⟨_, rfl⟩
        obtain ⟨b, hab, hb2, rfl, ho, hx, hb⟩ := hrel
        have HO := Lib.hid ho
        have HX := Lib.hid hx
        have HB := Lib.hid hb
        have yb0 := hx.1
        clear ho hx hb ya0
        by_cases hltb : b < n
        · have HSB := Lib.hid (triB_succ xs n a b)
          have HLC := Lib.hid (triC_low xs a b (a + 1) (Nat.le_refl _))
          go_wp2
          go_loopw [3, 6] (fun v i wr => ∃ c : Nat, a < c ∧ c ≤ n ∧ i = .int .i64 c ∧ OwnRows wr (w.heap.size + 1) v (triA xs n a ++ triB xs n a b ++ triC xs a b c) ∧ TBox wr w.heap.size n (.slice A xs.length cA) ∧ Below w.heap.size w wr) (fun _ i _ => n - (intOf i).toNat)
          case atStart => exact ⟨a + 1, by omega, by omega, by go_num, by rw [HLC.out, List.append_nil]; exact HO.out, HX.out, HB.out⟩
          case round =>
            obtain ⟨c, hac, hc2, rfl, ho, hx, hb⟩ := hrel
            have y0 := hx.1
            have y1 := hx.2
            by_cases hltc : c < n
            · have HSC := Lib.hid (triC_succ xs a b c)
              have HPC := Lib.hid (HP.out a b c)
              have l1 := triA_len xs n a
              have l2 := triB_len xs n a b
              have l3 := triC_len xs a b c
              have l4 := nmul_le h8 (show a ≤ n by omega)
              have l5 : n * b ≤ 8 * 8 := Nat.mul_le_mul h8 (by omega)
              have hlen : (triA xs n a ++ triB xs n a b ++ triC xs a b c).length ≤ 1048576 := by rw [List.length_append, List.length_append]; omega
              clear l1 l2 l3 l4 l5 yb0
              have HO1 := Lib.hid ho
              have HX1 := Lib.hid hx
              have HB1 := Lib.hid hb
              clear ho hx hb
              generalize hX : triA xs n a ++ triB xs n a b ++ triC xs a b c = X at *
              have HXX := Lib.hid hX
              clear hX
              by_cases hcb : c = b
              · subst hcb
                have hq : triP xs a c c = false := by
                  have : btI xs c c = false := HSELF.out c (by rw [HL.out]; omega)
                  rw [HPC.out, this]; simp
                have hne : ((c : Int) != (c : Int)) = false := by simp
                have HQ := Lib.hid hq
                clear hq
                go_wp2
                go_roundw
                case rel => exact ⟨c + 1, by omega, by omega, by go_num, by rw [HSC.out, HQ.out, ← List.append_assoc, HXX.out]; simpa using HO1.out, HX1.out, HB1.out⟩
                case measure => simp [intOf]; omega
              · have hne : ((c : Int) != (b : Int)) = true := by simp; omega
                go_wp2_with fail
                refine (HBA.out a b _ hlta hltb HB1.out).mono ?_
                rintro e w3 ⟨rfl, hb3⟩
                have HO3 := Lib.hid (HO1.out.below hb3)
                have HX3 := Lib.hid (HX1.out.below hb3)
                have HB3 := Lib.hid (Below.then HB1.out hb3)
                clear hb3 y0 y1
                have y0 := HX3.out.1
                have y1 := HX3.out.2
                rcases q1 : btI xs a b with _ | _
                case false =>
                  have HQ : Hid (triP xs a b c = false) := by unfold Hid; rw [HPC.out, q1]; simp
                  go_wp2
                  go_roundw
                  case rel => exact ⟨c + 1, by omega, by omega, by go_num, by rw [HSC.out, HQ.out, ← List.append_assoc, HXX.out]; simpa using HO3.out, HX3.out, HB3.out⟩
                  case measure => simp [intOf]; omega
                go_wp2_with fail
                refine (HBA.out b c _ hltb hltc HB3.out).mono ?_
                rintro e w4 ⟨rfl, hb4⟩
                have HO4 := Lib.hid (HO3.out.below hb4)
                have HX4 := Lib.hid (HX3.out.below hb4)
                have HB4 := Lib.hid (Below.then HB3.out hb4)
                clear hb4 y0 y1
                have y0 := HX4.out.1
                have y1 := HX4.out.2
                rcases q2 : btI xs b c with _ | _
                case false =>
                  have HQ : Hid (triP xs a b c = false) := by unfold Hid; rw [HPC.out, q1, q2]; simp
                  go_wp2
                  go_roundw
                  case rel => exact ⟨c + 1, by omega, by omega, by go_num, by rw [HSC.out, HQ.out, ← List.append_assoc, HXX.out]; simpa using HO4.out, HX4.out, HB4.out⟩
                  case measure => simp [intOf]; omega
                go_wp2_with fail
                refine (HBA.out c a _ hltc hlta HB4.out).mono ?_
                rintro e w5 ⟨rfl, hb5⟩
                have HO5 := Lib.hid (HO4.out.below hb5)
                have HX5 := Lib.hid (HX4.out.below hb5)
                have HB5 := Lib.hid (Below.then HB4.out hb5)
                clear hb5 y0 y1
                rcases q3 : btI xs c a with _ | _
                case false =>
                  have HQ : Hid (triP xs a b c = false) := by unfold Hid; rw [HPC.out, q1, q2, q3]; simp
                  go_wp2
                  go_roundw
                  case rel => exact ⟨c + 1, by omega, by omega, by go_num, by rw [HSC.out, HQ.out, ← List.append_assoc, HXX.out]; simpa using HO5.out, HX5.out, HB5.out⟩
                  case measure => simp [intOf]; omega
                have HQ : Hid (triP xs a b c = true) := by unfold Hid; rw [HPC.out, q1, q2, q3]; simp [hab, hac]
                have hsz5 : w.heap.size + 1 ≤ w5.heap.size := World.block_lt_of_cell? _ _ HX5.out.1
                have hr := own_row3 w5 (w.heap.size + 1) a b c hsz5
                have ba := below_alloc1 w5 (.cells #[.int .i64 a, .int .i64 b, .int .i64 c] 3)
                have HOr := Lib.hid (HO5.out.below ba)
                have HXr := Lib.hid (HX5.out.below ba)
                have HBr := Lib.hid (Below.then HB5.out ba)
                have HRr := Lib.hid hr
                clear hr ba
                go_wp2_with (at_builtin; refine wp_append1V (w5.alloc (.cells #[.int .i64 a, .int .i64 b, .int .i64 c] 3)) rfl (.tmp 51) (.tmp 56) rfl (w.heap.size + 1) _ _ _ _ rfl HOr.out HRr.out (by simp [Act.eval]) hlen (by simp; omega) ?_; intro v' w7 ho7 hg7; have HO7 := Lib.hid ho7; have HX7 := Lib.hid (HXr.out.kept hg7 (nb_ne (own_ne (fun k hk => (HOr.out.lt k hk).1) (Nat.lt_succ_self _)))); have HB7 := Lib.hid (below_appendV HBr.out hg7 HOr.out (Nat.le_succ _) (by simp; omega)); clear ho7 hg7)
                go_roundw
                case rel => exact ⟨c + 1, by omega, by omega, by go_num, by rw [HSC.out, HQ.out, ← List.append_assoc, HXX.out]; exact HO7.out, HX7.out, HB7.out⟩
                case measure => simp [intOf]; omega
            · obtain rfl : n = c := by omega
              have HO2 := Lib.hid ho
              have HX2 := Lib.hid hx
              have HB2 := Lib.hid hb
              clear ho hx hb yb0
              go_wp2
              go_roundw
              case rel => exact ⟨b + 1, by omega, by omega, by go_num, by rw [HSB.out, ← List.append_assoc]; exact HO2.out, HX2.out, HB2.out⟩
              case measure => simp [intOf]; omega
        · obtain rfl : n = b := by omega
          go_wp2
          go_roundw
          case rel => exact ⟨a + 1, by omega, by go_num, by rw [HSA.out]; exact HO.out, HX.out, HB.out⟩
          case measure => simp [intOf]; omega
    · obtain rfl : n = a := by omega
      go_wp2
      go_ret
      exact ⟨_, rfl, by rw [HL.out]; exact HO.out.mono (Nat.le_succ _), HB.out⟩
end Go.Proofs.Ytoblhnfnjagajaa
