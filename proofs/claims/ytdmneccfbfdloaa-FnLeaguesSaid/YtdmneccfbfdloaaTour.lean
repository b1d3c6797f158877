/- Tours: words, and the small methods has, beats. -/
import Derived.Test.YtdmneccfbfdloaaAllW
import Derived.Test.YtdmneccfbfdloaaBox
import Derived.Test.YtdmneccfbfdloaaBits
namespace Go.Proofs.Ytdmneccfbfdloaa
open Go.RowKit Go.Sort

/-- digit number b of x -/
def bitI (x : Int) (b : Nat) : Bool := decide (x / 2 ^ b % 2 = 1)
theorem bit_walk (x : Int) (b : Nat) : (bits BinOp.and IntKind.i64 (x / 2 ^ b) 1 == 1) = bitI x b := by
  rw [i64_and_one, bitI, Bool.eq_iff_iff]; simp
set_option maxHeartbeats 400000 in
theorem beats_any (s : Int) (sl : Value) (xs : List Int) (a b : Int) (w : World) (h : Rd w sl xs) (ha : 0 ≤ a) (ha2 : a < xs.length) (hb : 0 ≤ b) (hb2 : b ≤ 63) :
    Calls Try.prog 75 #[.agg #[.int .i64 s, sl], .int .i64 a, .int .i64 b] w fun e w' => e = .returned (.bool (bitI (xs.getD a.toNat 0) b.toNat)) ∧ Below w.heap.size w w' := by
  obtain ⟨A, c, rfl, hl1, hm1, hc1⟩ := h
  unfold maxLen at hm1
  obtain ⟨a, rfl⟩ := Int.eq_ofNat_of_zero_le ha
  obtain ⟨b, rfl⟩ := Int.eq_ofNat_of_zero_le hb
  obtain ⟨g, off, rfl, hg, hx⟩ := hc1 (by omega)
  have hxa := hx a (by omega)
  have hxa' : (w.alloc (.cells #[.int .i64 s, .slice (some ⟨g, off, none⟩) xs.length c] 64)).cell? ⟨g, off + a, none⟩ = some (.int .i64 (xs.getD a 0)) := by
    rw [World.cell?_alloc_lt _ _ _ (by exact hg)]; exact hxa
  generalize hn : xs.length = n at *
  have HN := Lib.hid hn
  clear hx hxa hn
  go_enter Try.func75, Try.ntmps75
  go_wp2
  go_ret
  refine ⟨ret_bool ?_, below_alloc1 _ _⟩
  rw [bit_walk]
  simp
end Go.Proofs.Ytdmneccfbfdloaa
