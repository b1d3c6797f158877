/- (impl.Tour).code. -/
import Derived.Test.YtceeplhkokajhabCls
import Derived.Test.YtceeplhkokajhabTourL
namespace Go.Proofs.Ytceeplhkokajhab
open Go.RowKit Go.Sort
set_option maxRecDepth 100000
theorem pow_lt_big {k : Nat} (h : k ≤ 50) : 2 ^ k ≤ 1125899906842624 := Nat.le_trans (Nat.pow_le_pow_right (by decide) h) (by decide)
theorem bit_num (W b : Nat) : bits .and .i64 ((W : Int) / 2 ^ b) 1 = ((W.testBit b).toNat : Int) := by
  rw [i64_and_one]
  have : (W : Int) / 2 ^ b % 2 = ((W / 2 ^ b % 2 : Nat) : Int) := by simp
  rw [this, Nat.testBit_eq_decide_div_mod_eq]
  rcases Nat.mod_two_eq_zero_or_one (W / 2 ^ b) with h | h <;> rw [h] <;> rfl
set_option maxHeartbeats 4000000 in
theorem code_any (n : Nat) (sl : Value) (xs : List Int) (w : World) (h : Rd w sl xs) (hp : tourP n xs) (h6 : n ≤ 6) :
    Calls Try.prog 51 #[.agg #[.int .i64 n, sl]] w fun e w' => e = .returned (.int .i64 (codeN xs : Nat)) ∧ Below w.heap.size w w' := by
  obtain ⟨g, off, c, rfl, hcm, hg, hx⟩ := tour_cells h hp
  unfold maxLen at hcm
  have hp1 := hp.1
  have hpl := hp.2.1
  have HX := Lib.hid hx
  have HP := Lib.hid hp
  generalize hln : xs.length = m at *
  obtain rfl : m = n := by omega
  have HL := Lib.hid hln
  have HC : Hid (codeN xs = cdAll xs m m 0 0) := by unfold Hid codeN; rw [hln]
  clear hx hp hln hpl
  go_enter Try.func51, Try.ntmps51
  go_wp2_with fail
  have b0 := below_alloc1 w (.cells #[.int .i64 m, .slice (some ⟨g, off, none⟩) m c] 27)
  have x0 := TBox.new w m (.slice (some ⟨g, off, none⟩) m c) 27
  generalize w.alloc (.cells #[.int .i64 m, .slice (some ⟨g, off, none⟩) m c] 27) = w0 at *
  have HX0 := Lib.hid x0
  have HB0 := Lib.hid b0
  clear x0 b0
  have y0_0 := HX0.out.1
  have y1_0 := HX0.out.2
  clear y0_0 y1_0
  have HX1 : Hid (∀ j, j < m → w0.cell? ⟨g, off + j, none⟩ = some (.int .i64 (winsN xs j))) := fun j hj => (HB0.out.cell (p := ⟨g, off + j, none⟩) hg).trans (HX.out j hj)
  have y0 := HX0.out.1
  have y1 := HX0.out.2
  go_wp2_with fail
  go_loop [3, 10] (fun v i => ∃ (a cc : Nat), a ≤ m ∧ i = .int .i64 a ∧ v = .int .i64 cc ∧ Hid (cdAll xs m (m - a) a cc = codeN xs) ∧ Hid (cc < 2 ^ (8 * a))) (fun _ i => m - (intOf i).toNat)
  case atStart => exact ⟨0, 0, by omega, rfl, rfl, HC.out.symm, by simp [Hid]⟩
  case round =>
    obtain ⟨a, cc, ha, rfl, rfl, HA, HB⟩ := hrel
    by_cases hlt : a < m
    · have hxa := HX1.out a hlt
      have HRW : Hid (cdAll xs m (m - a) a cc = cdAll xs m (m - (a + 1)) (a + 1) (cdRow xs a (m - (a + 1)) (a + 1) cc)) := by
        unfold Hid; rw [show m - a = (m - (a + 1)) + 1 by omega]; rfl
      have hW := (tour_wins HP.out (show a < xs.length by rw [HL.out]; exact hlt)).2.2
      have HA2 : Hid (cdAll xs m (m - (a + 1)) (a + 1) (cdRow xs a (m - (a + 1)) (a + 1) cc) = codeN xs) := by unfold Hid; rw [← HRW.out]; exact HA.out
      have HBT : Hid (∀ b, bt xs a b = (winsN xs a).testBit b) := fun _ => rfl
      clear HRW
      generalize winsN xs a = W at *
      have hc0 : cc ≤ 1125899906842624 := Nat.le_of_lt (Nat.lt_of_lt_of_le HB.out (pow_lt_big (by omega)))
      go_wp2_with fail
      go_loop [3, 6] (fun v i => ∃ (b c2 : Nat), a + 1 ≤ b ∧ b ≤ m ∧ i = .int .i64 b ∧ v = .int .i64 c2 ∧ Hid (cdAll xs m (m - (a + 1)) (a + 1) (cdRow xs a (m - b) b c2) = codeN xs) ∧ Hid (c2 < 2 ^ (8 * a + b))) (fun _ i => m - (intOf i).toNat)
      case atStart => exact ⟨a + 1, cc, Nat.le_refl _, hlt, by go_num, rfl, HA2.out, Nat.lt_of_lt_of_le HB.out (Nat.pow_le_pow_right (by decide) (by omega))⟩
      case round =>
        obtain ⟨b, c2, hb1, hb, rfl, rfl, HD, HE⟩ := hrel
        have hc2 : c2 ≤ 1125899906842624 := Nat.le_of_lt (Nat.lt_of_lt_of_le HE.out (pow_lt_big (by omega)))
        by_cases hbm : b < m
        · have hbn := bit_num W b
          have h01 := toNat_le1 (W.testBit b)
          have HRO : Hid (cdRow xs a (m - b) b c2 = cdRow xs a (m - (b + 1)) (b + 1) (2 * c2 + (W.testBit b).toNat)) := by
            unfold Hid; rw [show m - b = (m - (b + 1)) + 1 by omega, cdRow, HBT.out]
          have HE2 : Hid (2 * c2 + (W.testBit b).toNat < 2 ^ (8 * a + (b + 1))) := by
            have := HE.out
            unfold Hid
            rw [show 8 * a + (b + 1) = (8 * a + b) + 1 by omega, Nat.pow_succ]; omega
          have HD2 : Hid (cdAll xs m (m - (a + 1)) (a + 1) (cdRow xs a (m - (b + 1)) (b + 1) (2 * c2 + (W.testBit b).toNat)) = codeN xs) := by unfold Hid; rw [← HRO.out]; exact HD.out
          clear HRO
          generalize (W.testBit b).toNat = t at *
          go_wp2
          go_round
          case rel => exact ⟨b + 1, 2 * c2 + t, by omega, by omega, by go_num, by go_num, HD2.out, HE2.out⟩
          case measure => simp [intOf]; omega
        · obtain rfl : b = m := by omega
          have HD2 : Hid (cdAll xs b (b - (a + 1)) (a + 1) c2 = codeN xs) := by have := HD.out; rw [Nat.sub_self] at this; exact this
          have HE2 : Hid (c2 < 2 ^ (8 * (a + 1))) := Nat.lt_of_lt_of_le HE.out (Nat.pow_le_pow_right (by decide) (by omega))
          go_wp2
          go_round
          case rel => exact ⟨a + 1, c2, by omega, by go_num, rfl, HD2.out, HE2.out⟩
          case measure => simp [intOf]; omega
    · obtain rfl : a = m := by omega
      have HF : Hid (cc = codeN xs) := by have := HA.out; rw [Nat.sub_self] at this; exact this
      go_wp2
      go_ret
      exact ⟨ret_int (by rw [HF.out]), HB0.out⟩
end Go.Proofs.Ytceeplhkokajhab
