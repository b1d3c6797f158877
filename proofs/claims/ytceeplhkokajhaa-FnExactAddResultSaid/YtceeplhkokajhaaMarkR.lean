/- The helpers of the laws that mark and look up marks, over results, leagues and tours. -/
import Derived.Test.YtceeplhkokajhaaMarks
import Derived.Test.YtceeplhkokajhaaApp
import Derived.Test.YtceeplhkokajhaaLgL
namespace Go.Proofs.Ytceeplhkokajhaa
open Go.RowKit

set_option maxHeartbeats 400000 in
theorem markTour_any (s : Int) (sl : Value) (xs : List Int) (base : Nat) (k : Int) (w : World) (h : Own w base sl xs) (hlen : xs.length ≤ 2097152) (hk : 0 ≤ k) (hk2 : k ≤ 16777216) :
    Calls Try.prog 45 #[.agg #[.int .i64 s, sl], .int .i64 k] w fun e w' => e = .returned (.int .i64 (k + xs.length)) ∧ Own w' base sl (marks k xs.length) ∧ w.grownBy w' sl.ownBlock := by
  have HO := Lib.hid h
  obtain ⟨A, c, rfl, hm1, -, -⟩ := h.form
  clear h
  go_enter Try.func45, Try.ntmps45
  go_wp2_with fail
  refine (markIntS_any _ xs base k _ (HO.out.alloc _) hlen hk hk2).mono ?_
  rintro e w1 ⟨rfl, ho, hg⟩
  have HO1 := Lib.hid ho
  have HG := Lib.hid (grown_of_alloc hg)
  clear ho hg
  go_wp2
  go_ret
  exact ⟨rfl, HO1.out, HG.out⟩
/-- the results with the numbers from k on -/
def markR (k : Int) (i : Nat) : R4 := (k + 4 * i, k + 4 * i + 1, k + 4 * i + 1 + 1, k + 4 * i + 1 + 1 + 1)
def marksR (k : Int) (n : Nat) : List R4 := (List.range n).map (markR k)
theorem marksR_length (k : Int) (n : Nat) : (marksR k n).length = n := by simp [marksR]
theorem marksR_at (k : Int) {n i : Nat} (h : i < n) : r4At (marksR k n) i = markR k i := by simp [marksR, r4At, h]
theorem markR_set (rs : List R4) (k : Int) (i : Nat) (h : i < rs.length) : (marksR k i ++ rs.drop i).set i (markR k i) = marksR k (i + 1) ++ rs.drop (i + 1) := by
  rw [List.set_append_right _ _ (by rw [marksR_length]; exact Nat.le_refl _), marksR_length, Nat.sub_self, List.drop_eq_getElem_cons h, List.set_cons_zero]
  simp [marksR, List.range_succ]
set_option maxHeartbeats 1000000 in
theorem markResultS_any (v : Value) (rs : List R4) (base : Nat) (k : Int) (w : World) (h : OwnR w base v rs) (hlen : rs.length ≤ 2097152) (hk : 0 ≤ k) (hk2 : k ≤ 16777216) :
    Calls Try.prog 54 #[v, .int .i64 k] w fun e w' => e = .returned (.int .i64 (k + 4 * (rs.length : Int))) ∧ OwnR w' base v (marksR k rs.length) ∧ w.grownBy w' v.ownBlock := by
  have HO := Lib.hid h
  obtain ⟨A, c, rfl, hl1, hm1, -⟩ := h.rd
  unfold maxLen at hm1
  generalize hn : rs.length = n at *
  have HN := Lib.hid hn
  clear h hn
  go_enter Try.func54, Try.ntmps54
  go_wp2
  go_loopw [1, 5] (fun s i wr => ∃ j : Nat, j ≤ n ∧ i = .int .i64 j ∧ s = .int .i64 (k + 4 * j) ∧ OwnR wr base (.slice A n c) (marksR k j ++ rs.drop j) ∧ w.grownBy wr (Value.slice A n c).ownBlock) (fun _ i _ => n - (intOf i).toNat)
  case atStart => exact ⟨0, by omega, rfl, by simp, by simpa [marksR] using HO.out, World.grownBy.refl _ _⟩
  case round =>
    obtain ⟨j, hj, rfl, rfl, hown, hg⟩ := hrel
    have hll : (marksR k j ++ rs.drop j).length = n := by rw [List.length_append, marksR_length, List.length_drop, HN.out]; omega
    by_cases hlt : j < n
    · have hset := markR_set rs k j (by rw [HN.out]; exact hlt)
      generalize marksR k j ++ rs.drop j = X at *
      obtain ⟨g', c', e1, -, -, -, hx', hf'⟩ := hown.at_ hll (by omega)
      injection e1 with e1 _ e2
      subst e1
      clear e2
      obtain ⟨z0, z1, z2, z3⟩ := hx' j hlt
      have f0 := hf' (j * 4)
      have f1 := hf' (j * 4 + 1)
      have f2 := hf' (j * 4 + 2)
      have f3 := hf' (j * 4 + 3)
      have S := hown.set_ hll j hlt (markR k j)
      rw [hset] at S
      have HS := Lib.hid (And.intro S.1 (grown_trans hg S.2))
      clear hx' hf' S hset hown hg hll
      go_wp2
      go_roundw
      case rel => exact ⟨j + 1, by omega, by go_num, by go_num, HS.out.1, HS.out.2⟩
      case measure => simp [intOf]; omega
    · obtain rfl : j = n := by omega
      go_wp2
      go_ret
      refine ⟨rfl, ?_, hg⟩
      rw [List.drop_of_length_le (by rw [HN.out]; exact Nat.le_refl _), List.append_nil] at hown
      exact hown
set_option maxHeartbeats 1000000 in
theorem heldMarksResultS_any (v : Value) (n : Nat) (k : Int) (w : World) (h : RdR w v (marksR k n)) (hlen : n ≤ 2097152) (hk : 0 ≤ k) (hk2 : k ≤ 16777216) :
    Calls Try.prog 55 #[v, .int .i64 k] w fun e w' => e = .returned (.int .i64 (k + 4 * (n : Int))) ∧ w = w' := by
  obtain ⟨A, c, rfl, hl1, hm1, hc1⟩ := h
  rw [marksR_length] at *
  unfold maxLen at hm1
  have H3 := Lib.hid hc1
  clear hc1
  go_enter Try.func55, Try.ntmps55
  go_wp2
  go_loop [1, 5] (fun s i => ∃ j : Nat, j ≤ n ∧ i = .int .i64 j ∧ s = .int .i64 (k + 4 * j)) (fun _ i => n - (intOf i).toNat)
  case atStart => exact ⟨0, by omega, rfl, by simp⟩
  case round =>
    obtain ⟨j, hj, rfl, rfl⟩ := hrel
    by_cases hlt : j < n
    · obtain ⟨b, off, rfl, hb, hx⟩ := H3.out (by omega)
      have hf := hx j hlt
      rw [marksR_at k hlt] at hf
      obtain ⟨z0, z1, z2, z3⟩ := hf
      simp only [markR] at z0 z1 z2 z3
      have e0 : (k + 4 * (j : Int) != k + 4 * (j : Int)) = false := by simp
      have e1 : (k + 4 * (j : Int) + 1 != k + 4 * (j : Int) + 1) = false := by simp
      have e2 : (k + 4 * (j : Int) + 1 + 1 != k + 4 * (j : Int) + 1 + 1) = false := by simp
      have e3 : (k + 4 * (j : Int) + 1 + 1 + 1 != k + 4 * (j : Int) + 1 + 1 + 1) = false := by simp
      clear hx
      go_wp2
      go_round
      case rel => exact ⟨j + 1, by omega, by go_num, by go_num⟩
      case measure => simp [intOf]; omega
    · obtain rfl : j = n := by omega
      go_wp2
      go_ret
      exact ⟨rfl, rfl⟩
set_option maxHeartbeats 400000 in
theorem markLeague_any (s : Int) (sl : Value) (rs : List R4) (base : Nat) (k : Int) (w : World) (h : OwnR w base sl rs) (hlen : rs.length ≤ 2097152) (hk : 0 ≤ k) (hk2 : k ≤ 16777216) :
    Calls Try.prog 15 #[.agg #[.int .i64 s, sl], .int .i64 k] w fun e w' => e = .returned (.int .i64 (k + 4 * (rs.length : Int))) ∧ OwnR w' base sl (marksR k rs.length) ∧ w.grownBy w' sl.ownBlock := by
  have HO := Lib.hid h
  obtain ⟨A, c, rfl, -, -, -⟩ := h.rd
  clear h
  go_enter Try.func15, Try.ntmps15
  go_wp2_with fail
  refine (markResultS_any _ rs base k _ (HO.out.alloc _) hlen hk hk2).mono ?_
  rintro e w1 ⟨rfl, ho, hg⟩
  have HO1 := Lib.hid ho
  have HG := Lib.hid (grown_of_alloc hg)
  clear ho hg
  go_wp2
  go_ret
  exact ⟨rfl, HO1.out, HG.out⟩
set_option maxHeartbeats 400000 in
theorem heldMarksLeague_any (s : Int) (sl : Value) (n : Nat) (k : Int) (w : World) (h : RdR w sl (marksR k n)) (hlen : n ≤ 2097152) (hk : 0 ≤ k) (hk2 : k ≤ 16777216) :
    Calls Try.prog 16 #[.agg #[.int .i64 s, sl], .int .i64 k] w fun e w' => e = .returned (.int .i64 (k + 4 * (n : Int))) ∧ Below w.heap.size w w' := by
  have HR := Lib.hid h
  obtain ⟨A, c, rfl, -, -, -⟩ := h
  have B0 := Lib.hid (below_alloc1 w (.cells #[.int .i64 s, .slice A (marksR k n).length c] 30))
  go_enter Try.func16, Try.ntmps16
  go_wp2_with fail
  refine (heldMarksResultS_any _ n k _ (HR.out.below B0.out) hlen hk hk2).mono ?_
  rintro e w1 ⟨rfl, rfl⟩
  go_wp2
  go_ret
  exact ⟨rfl, B0.out⟩
end Go.Proofs.Ytceeplhkokajhaa
