/- impl.OrderBy: its comparison. -/
import Derived.Test.YtdmneccfbfdloaaIdx
import Derived.Test.YtdmneccfbfdloaaOrd
import Derived.Deep.RegionHeld3
import Derived.Lib.SliceRun
namespace Go.Proofs.Ytdmneccfbfdloaa
open Go.RowKit Go.Sort
set_option maxRecDepth 100000
theorem idx_ids (n : Nat) : idxL n = idsL n := rfl
def cmpC (x y : Int) : Int := if x < y then -1 else if y < x then 1 else 0
set_option maxHeartbeats 2000000 in
theorem isNaN_any (x : Int) (w : World) : Calls Try.prog 58 #[.int .i64 x] w fun e w' => e = .returned (.bool false) ∧ w = w' := by
  go_enter Try.func58, Try.ntmps58
  go_wp2
  go_ret
  exact ⟨by simp, rfl⟩
set_option maxHeartbeats 2000000 in
theorem compare_any (x y : Int) (w : World) : Calls Try.prog 37 #[.int .i64 x, .int .i64 y] w fun e w' => e = .returned (.int .i64 (cmpC x y)) ∧ w = w' := by
  have HC : Hid (cmpC x y = if x < y then -1 else if y < x then 1 else 0) := rfl
  go_enter Try.func37, Try.ntmps37
  go_wp2_with fail
  refine (isNaN_any x _).mono ?_
  rintro e w1 ⟨rfl, rfl⟩
  go_wp2_with fail
  refine (isNaN_any y _).mono ?_
  rintro e w1 ⟨rfl, rfl⟩
  by_cases h1 : x < y
  · go_wp2
    go_ret
    exact ⟨ret_int (by rw [HC.out, if_pos h1]), rfl⟩
  · by_cases h2 : y < x
    · go_wp2
      go_ret
      exact ⟨ret_int (by rw [HC.out, if_neg (by omega), if_pos h2]), rfl⟩
    · go_wp2
      go_ret
      exact ⟨ret_int (by rw [HC.out, if_neg (by omega), if_neg (by omega)]), rfl⟩
set_option maxHeartbeats 2000000 in
theorem ord1_any (L : List Int) (v : Value) (gb a b : Nat) (W : World) (hb : W.cell? ⟨gb, 0, none⟩ = some v) (h : Rd W v L) (ha : a < L.length) (hb2 : b < L.length) :
    Calls Try.prog 36 #[.int .i64 a, .int .i64 b, .pointer (some ⟨gb, 0, none⟩)] W fun e w' => e = .returned (.int .i64 (cmpC (L.getD b 0) (L.getD a 0))) ∧ Below W.heap.size W w' := by
  obtain ⟨A, c, rfl, hl, hm, hx⟩ := h
  unfold maxLen at hm
  obtain ⟨g, o, rfl, hg, hc⟩ := hx (by omega)
  have za := hc a ha
  have zb := hc b hb2
  generalize L.getD a 0 = xa at *
  generalize L.getD b 0 = xb at *
  generalize hn : L.length = n at *
  have HN := Lib.hid hn
  clear hn hc hx
  go_enter Try.func36, Try.ntmps36
  go_wp2_with fail
  go_region_held3 (fun W => W.cell? ⟨gb, 0, none⟩ = some (.slice (some ⟨g, o, none⟩) n c) ∧ W.cell? ⟨g, o + a, none⟩ = some (.int .i64 xa) ∧ W.cell? ⟨g, o + b, none⟩ = some (.int .i64 xb))
    (first | exact ⟨hb, za, zb⟩)
    (first
      | (go_at_call 37; refine (compare_any _ _ _).mono ?_; rintro e wz ⟨rfl, rfl⟩))
  all_goals
    go_wp2
    go_ret
    exact ⟨rfl, (let r := Below.refl W.heap.size W; ⟨r.os, r.tape, r.output, r.size, r.block⟩)⟩
end Go.Proofs.Ytdmneccfbfdloaa
