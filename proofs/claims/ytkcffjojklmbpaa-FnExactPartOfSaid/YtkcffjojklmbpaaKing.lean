/- FnExactIsKing: the functions. -/
import Derived.Test.YtkcffjojklmbpaaScoreOf
import Derived.Test.YtkcffjojklmbpaaMem
namespace Go.Proofs.Ytkcffjojklmbpaa
open Go.RowKit Go.Sort

/-- a set with all that the listed beat -/
def orK (xs : List Int) (l : List Nat) (S : Nat) : Nat := l.foldl (fun s b => s ||| winsN xs b) S
theorem orK_snoc (xs : List Int) (l : List Nat) (b S : Nat) : orK xs (l ++ [b]) S = orK xs l S ||| winsN xs b := by simp [orK]
def nearN (xs : List Int) (a : Nat) : Nat := orK xs (memN (winsN xs a) 8) (winsN xs a ||| 2 ^ a)
def kingN (xs : List Int) (a : Nat) : Bool := nearN xs a == 2 ^ xs.length - 1
noncomputable def kingB (s : Int) (xs : List Int) (a : Int) : Bool := tourB s xs && (inB a 0 (s - 1) && kingN xs a.toNat)
theorem or_lt8 {a b : Nat} (ha : a < 256) (hb : b < 256) : a ||| b < 256 := Nat.or_lt_two_pow (n := 8) ha hb
theorem pow_lt8 {a : Nat} (h : a < 8) : 2 ^ a < 256 := Nat.pow_lt_pow_right (n := 8) (by decide) h
theorem take_snocN {l : List Nat} {k : Nat} (hk : k < l.length) : l.take (k + 1) = l.take k ++ [l[k]] := List.take_succ_eq_append_getElem hk
theorem orK_lt {s : Int} {xs : List Int} (hp : tourP s xs) {l : List Nat} (hl : ∀ b ∈ l, b < xs.length) {S : Nat} (hS : S < 256) : orK xs l S < 256 := by
  induction l generalizing S with
  | nil => exact hS
  | cons b l ih =>
    unfold orK
    rw [List.foldl_cons]
    exact ih (fun c hc => hl c (by simp [hc])) (or_lt8 hS (tour_wins hp (hl b (by simp))).2.2)
/-- the players whom a player beats are players -/
theorem wins_mem {s : Int} {xs : List Int} (hp : tourP s xs) {a : Nat} (ha : a < xs.length) : ∀ b ∈ memN (winsN xs a) 8, b < xs.length := by
  intro b hb
  have hw := (tour_wins hp ha).2.1
  have hbit := (mem_memN.1 hb).2
  rcases Nat.lt_or_ge b xs.length with h | h
  · exact h
  · have hs := hp.2.1
    rw [Nat.testBit_lt_two_pow (Nat.lt_of_lt_of_le hw (Nat.pow_le_pow_right (by decide) (by omega)))] at hbit
    cases hbit
/-- the cells of a tour as natural numbers -/
theorem tour_cells {w : World} {sl : Value} {s : Int} {xs : List Int} (h : Rd w sl xs) (hp : tourP s xs) :
    ∃ g off c, sl = .slice (some ⟨g, off, none⟩) xs.length c ∧ c ≤ maxLen ∧ g < w.heap.size ∧ ∀ j, j < xs.length → w.cell? ⟨g, off + j, none⟩ = some (.int .i64 (winsN xs j)) := by
  obtain ⟨A, c, rfl, -, hm, hc⟩ := h
  obtain ⟨g, off, rfl, hg, hx⟩ := hc (by have := hp.1; have := hp.2.1; omega)
  exact ⟨g, off, c, rfl, hm, hg, fun j hj => by rw [hx j hj, (tour_wins hp hj).1]⟩
theorem or_shl' (S a : Nat) (hS : S < 4611686018427387904) (h : a ≤ 61) : bits .or .i64 (wrap64 (2 ^ a)) (S : Int) = ((S ||| 2 ^ a : Nat) : Int) := by
  rw [shl_nat a h, i64_or_nat _ _ (pow_lt63 h) (by omega), Nat.or_comm]
theorem getD_nat {l : List Nat} {j : Nat} (h : j < l.length) : l.getD j 0 = l[j] := by simp [h]
/-- the cells of a list of players -/
theorem memL_cells {w : World} {v : Value} {base S k : Nat} (h : Own w base v (memL S k)) : ∃ A c, v = .slice A (memN S k).length c ∧ c ≤ maxLen ∧ (memN S k).length ≤ c ∧
    (0 < (memN S k).length → ∃ g off, A = some ⟨g, off, none⟩ ∧ g < w.heap.size ∧ ∀ j, j < (memN S k).length → w.cell? ⟨g, off + j, none⟩ = some (.int .i64 ((memN S k).getD j 0 : Nat))) := by
  obtain ⟨A, c, rfl, hl, hm, hc⟩ := h.rd
  have e : (memL S k).length = (memN S k).length := by simp [memL]
  rw [e] at hl hc
  refine ⟨A, c, by rw [e], hm, hl, fun h0 => ?_⟩
  obtain ⟨g, off, rfl, hg, hx⟩ := hc h0
  exact ⟨g, off, rfl, hg, fun j hj => by rw [hx j hj, memL_at hj, getD_nat hj]⟩
set_option maxHeartbeats 400000 in
theorem l02All_any (n : Nat) (sl : Value) (w : World) (h : n ≤ 8) :
    Calls Try.prog 91 #[.agg #[.int .i64 n, sl]] w fun e w' => e = .returned (.int .i64 (2 ^ n - 1 : Nat)) ∧ Below w.heap.size w w' := by
  have B0 := Lib.hid (below_alloc1 w (.cells #[.int .i64 n, sl] 68))
  have hfull := full_nat n h
  have HF := Lib.hid hfull
  clear hfull
  go_enter Try.func91, Try.ntmps91
  go_wp2
  go_ret
  exact ⟨ret_int HF.out, B0.out⟩
end Go.Proofs.Ytkcffjojklmbpaa
