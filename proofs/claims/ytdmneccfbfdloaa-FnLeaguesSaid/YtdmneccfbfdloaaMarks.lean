/- The helpers of the laws over slices of ints, by contract: markIntS, heldIntS. -/
import Derived.Test.YtdmneccfbfdloaaLs
import Derived.Test.YtdmneccfbfdloaaBox
namespace Go.Proofs.Ytdmneccfbfdloaa
open Go.RowKit

/-- the numbers from k on, n of them -/
def marks (k : Int) (n : Nat) : List Int := (List.range n).map fun (i : Nat) => k + (i : Int)
theorem marks_length (k : Int) (n : Nat) : (marks k n).length = n := by simp [marks]
theorem marks_getD (k : Int) {n i : Nat} (h : i < n) : (marks k n).getD i 0 = k + i := by simp [marks, h]

theorem Below.of_drew {w w' : World} (h : ∃ q, w' = w.drewN q) : Below w.heap.size w w' := by
  obtain ⟨q, rfl⟩ := h
  exact below_drewN (Below.refl _ _) q

theorem mark_set (xs : List Int) (k : Int) (i : Nat) (h : i < xs.length) : (marks k i ++ xs.drop i).set i (k + i) = marks k (i + 1) ++ xs.drop (i + 1) := by
  rw [List.set_append_right _ _ (by rw [marks_length]; exact Nat.le_refl _), marks_length, Nat.sub_self, List.drop_eq_getElem_cons h, List.set_cons_zero]
  simp [marks, List.range_succ]

theorem grown_trans {a b c : World} {row : Option Nat} (h : a.grownBy b row) (k : b.grownBy c row) : a.grownBy c row :=
  ⟨k.os.trans h.os, k.tape.trans h.tape, k.output.trans h.output, Nat.le_trans h.size k.size, fun i hi hne => (k.block i (Nat.lt_of_lt_of_le hi h.size) hne).trans (h.block i hi hne)⟩

set_option maxHeartbeats 400000 in
theorem markIntS_any (v : Value) (xs : List Int) (base : Nat) (k : Int) (w : World) (h : Own w base v xs) (hlen : xs.length ≤ 2097152) (hk : 0 ≤ k) (hk2 : k ≤ 16777216) :
    Calls Try.prog 11 #[v, .int .i64 k] w fun e w' => e = .returned (.int .i64 (k + xs.length)) ∧ Own w' base v (marks k xs.length) ∧ w.grownBy w' v.ownBlock := by
  have h' := h
  obtain ⟨A, c, rfl, hm1, hl1, hc1⟩ := h.form
  unfold maxLen at hm1
  unfold Own at h'
  generalize hn : xs.length = n at *
  have HO := Lib.hid h'
  have HN := Lib.hid hn
  have H3 := Lib.hid hc1
  clear h h' hn hc1
  go_enter Try.func11, Try.ntmps11
  go_wp2
  go_loopw [1, 5] (fun s i wr => ∃ j : Nat, j ≤ n ∧ i = .int .i64 j ∧ s = .int .i64 (k + j) ∧ wr.ownsRow base 3 1 (.slice A n c) n ((marks k j ++ xs.drop j).map (Value.int .i64)) ∧ w.grownBy wr (Value.slice A n c).ownBlock) (fun _ i _ => n - (intOf i).toNat)
  case atStart => exact ⟨0, by omega, rfl, by simp, by simpa [marks] using HO.out, World.grownBy.refl _ _⟩
  case round =>
    obtain ⟨j, hj, rfl, rfl, hown, hg⟩ := hrel
    by_cases hlt : j < n
    · obtain ⟨g, rfl, hb, hgl⟩ := H3.out (by omega)
      have hck : wr.cell? ⟨g, j, none⟩ = some (.int .i64 (xs.getD j 0)) := by
        rw [World.ownsRow.cellAt hown j (by omega)]
        have hl := HN.out
        simp [List.getElem?_append, marks_length, hlt, hl]
      have hfk := World.ownsRow.frozenAt hown j
      have S := World.ownsRow.stored hown j (.int .i64 (k + j))
      have hS : (wr.setCell ⟨g, j, none⟩ (.int .i64 (k + j))).ownsRow base 3 1 (.slice (some ⟨g, 0, none⟩) n c) n ((marks k (j + 1) ++ xs.drop (j + 1)).map (Value.int .i64)) := by
        rw [← mark_set xs k j (by have := HN.out; omega), List.map_set]
        exact S.1
      have hG : w.grownBy (wr.setCell ⟨g, j, none⟩ (.int .i64 (k + j))) (some g) := grown_trans hg S.2
      have HS := Lib.hid (And.intro hS hG)
      clear S hS hG hown hg
      go_wp2
      go_roundw
      case rel => exact ⟨j + 1, by omega, by go_num, by go_num, HS.out.1, HS.out.2⟩
      case measure => simp [intOf]; omega
    · obtain rfl : j = n := by omega
      go_wp2
      go_ret
      refine ⟨rfl, ?_, hg⟩
      unfold Own
      rw [marks_length]
      rw [List.drop_of_length_le (by have := HN.out; omega), List.append_nil] at hown
      exact hown

/-- what heldIntS returns -/
def heldI (xs : List Int) (k : Int) : Int := if xs = marks k xs.length then k + xs.length else -1
theorem heldI_marks (k : Int) (n : Nat) : heldI (marks k n) k = k + n := by unfold heldI; simp [marks_length]
theorem heldI_no {xs : List Int} {k : Int} {j : Nat} (hj : j < xs.length) (h : xs[j]?.getD 0 ≠ k + j) : heldI xs k = -1 := by
  unfold heldI
  rw [if_neg]
  intro e
  apply h
  rw [← List.getD_eq_getElem?_getD, e, marks_getD k hj]
theorem heldI_yes {xs : List Int} {k : Int} (h : ∀ j, j < xs.length → xs.getD j 0 = k + j) : heldI xs k = k + xs.length := by
  unfold heldI
  rw [if_pos]
  apply List.ext_getElem (by rw [marks_length])
  intro i h1 h2
  have := h i h1
  rw [← marks_getD k h1] at this
  simpa [h1, h2] using this

set_option maxHeartbeats 400000 in
theorem heldIntS_any (v : Value) (xs : List Int) (k : Int) (w : World) (h : Rd w v xs) (hlen : xs.length ≤ 2097152) (hk : 0 ≤ k) (hk2 : k ≤ 16777216) :
    Calls Try.prog 12 #[v, .int .i64 k] w fun e w' => e = .returned (.int .i64 (heldI xs k)) ∧ w = w' := by
  obtain ⟨A, c, rfl, hl1, hm1, hc1⟩ := h
  unfold maxLen at hm1
  generalize hn : xs.length = n at *
  have HN := Lib.hid hn
  have H3 := Lib.hid hc1
  clear hn hc1
  go_enter Try.func12, Try.ntmps12
  go_wp2
  go_loop [1, 5] (fun s i => ∃ j : Nat, j ≤ n ∧ i = .int .i64 j ∧ s = .int .i64 (k + j) ∧ Hid (∀ i, i < j → xs.getD i 0 = k + i)) (fun _ i => n - (intOf i).toNat)
  case atStart => exact ⟨0, by omega, rfl, by simp, fun j hj => absurd hj (by omega)⟩
  case round =>
    obtain ⟨j, hj, rfl, rfl, HP⟩ := hrel
    by_cases hlt : j < n
    · obtain ⟨b, off, rfl, hb, hx⟩ := H3.out (by omega)
      have hxk := hx j hlt
      clear hx
      go_wp2
      · have h : (xs[j]?.getD 0 != k + (j : Int)) = true := by assumption
        go_ret
        exact ⟨ret_int (heldI_no (j := j) (by have := HN.out; omega) (by simpa using h)).symm, rfl⟩
      · have h : (xs[j]?.getD 0 != k + (j : Int)) = false := by assumption
        go_round
        case rel =>
          refine ⟨j + 1, by omega, by go_num, by go_num, fun i hi => ?_⟩
          by_cases hij : i < j
          · exact HP.out i hij
          · obtain rfl : i = j := by omega
            simpa using h
        case measure => simp [intOf]; omega
    · obtain rfl : j = n := by omega
      go_wp2
      go_ret
      exact ⟨ret_int (by rw [heldI_yes (by rw [HN.out]; exact HP.out), HN.out]), rfl⟩
theorem heldMarks_any (v : Value) (n : Nat) (k : Int) (w : World) (h : Rd w v (marks k n)) (hlen : n ≤ 2097152) (hk : 0 ≤ k) (hk2 : k ≤ 16777216) :
    Calls Try.prog 12 #[v, .int .i64 k] w fun e w' => e = .returned (.int .i64 (k + n)) ∧ w = w' := by
  have := heldIntS_any v (marks k n) k w h (by rw [marks_length]; exact hlen) hk hk2
  rwa [heldI_marks] at this
theorem apart_symm {a b : Option Nat} (h : a = none ∨ a ≠ b) : b = none ∨ b ≠ a := by
  rcases h with h | h
  · subst h; cases b <;> simp
  · exact .inr (Ne.symm h)
end Go.Proofs.Ytdmneccfbfdloaa
