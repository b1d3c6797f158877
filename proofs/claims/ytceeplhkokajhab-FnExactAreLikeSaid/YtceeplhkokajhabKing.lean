/- FnExactIsKing: the functions. -/
import Derived.Test.YtceeplhkokajhabScoreOf
import Derived.Test.YtceeplhkokajhabMem
namespace Go.Proofs.Ytceeplhkokajhab
open Go.RowKit Go.Sort

/-- a set with all that the listed beat -/
def orK (xs : List Int) (l : List Nat) (S : Nat) : Nat := l.foldl (fun s b => s ||| winsN xs b) S
theorem orK_snoc (xs : List Int) (l : List Nat) (b S : Nat) : orK xs (l ++ [b]) S = orK xs l S ||| winsN xs b := by simp [orK]
def nearN (xs : List Int) (a : Nat) : Nat := orK xs (memN (winsN xs a) 8) (winsN xs a ||| 2 ^ a)
def kingN (xs : List Int) (a : Nat) : Bool := nearN xs a == 2 ^ xs.length - 1
noncomputable def kingB (s : Int) (xs : List Int) (a : Int) : Bool := tourB s xs && (inB a 0 (s - 1) && kingN xs a.toNat)
theorem or_lt8 {a b : Nat} (ha : a < 256) (hb : b < 256) : a ||| b < 256 := Nat.or_lt_two_pow (n := 8) ha hb
theorem pow_lt8 {a : Nat} (h : a < 8) : 2 ^ a < 256 := Nat.pow_lt_pow_right (n := 8) (by decide) h
theorem take_snocN {l : List Nat} {k : Nat} (hk : k < l.length) : l.take (k + 1) = l.take k ++ [l[k]] := List.take_succ_eq_append_getElem hk
theorem orK_lt {s : Int} {xs : List Int} (hp : tourP s xs) {l : List Nat} (hl : ∀ b ∈ l, b < xs.length) {S : Nat} (hS : S < 256) : orK xs l S < 256 := by
  induction l generalizing S with
  | nil => exact hS
  | cons b l ih =>
    unfold orK
    rw [List.foldl_cons]
    exact ih (fun c hc => hl c (by simp [hc])) (or_lt8 hS (tour_wins hp (hl b (by simp))).2.2)
/-- the players whom a player beats are players -/
theorem wins_mem {s : Int} {xs : List Int} (hp : tourP s xs) {a : Nat} (ha : a < xs.length) : ∀ b ∈ memN (winsN xs a) 8, b < xs.length := by
  intro b hb
  have hw := (tour_wins hp ha).2.1
  have hbit := (mem_memN.1 hb).2
  rcases Nat.lt_or_ge b xs.length with h | h
  · exact h
  · have hs := hp.2.1
    rw [Nat.testBit_lt_two_pow (Nat.lt_of_lt_of_le hw (Nat.pow_le_pow_right (by decide) (by omega)))] at hbit
    cases hbit
/-- the cells of a tour as natural numbers -/
theorem tour_cells {w : World} {sl : Value} {s : Int} {xs : List Int} (h : Rd w sl xs) (hp : tourP s xs) :
    ∃ g off c, sl = .slice (some ⟨g, off, none⟩) xs.length c ∧ c ≤ maxLen ∧ g < w.heap.size ∧ ∀ j, j < xs.length → w.cell? ⟨g, off + j, none⟩ = some (.int .i64 (winsN xs j)) := by
  obtain ⟨A, c, rfl, -, hm, hc⟩ := h
  obtain ⟨g, off, rfl, hg, hx⟩ := hc (by have := hp.1; have := hp.2.1; omega)
  exact ⟨g, off, c, rfl, hm, hg, fun j hj => by rw [hx j hj, (tour_wins hp hj).1]⟩
theorem or_shl' (S a : Nat) (hS : S < 4611686018427387904) (h : a ≤ 61) : bits .or .i64 (wrap64 (2 ^ a)) (S : Int) = ((S ||| 2 ^ a : Nat) : Int) := by
  rw [shl_nat a h, i64_or_nat _ _ (pow_lt63 h) (by omega), Nat.or_comm]
theorem getD_nat {l : List Nat} {j : Nat} (h : j < l.length) : l.getD j 0 = l[j] := by simp [h]
/-- the cells of a list of players -/
theorem memL_cells {w : World} {v : Value} {base S k : Nat} (h : Own w base v (memL S k)) : ∃ A c, v = .slice A (memN S k).length c ∧ c ≤ maxLen ∧ (memN S k).length ≤ c ∧
    (0 < (memN S k).length → ∃ g off, A = some ⟨g, off, none⟩ ∧ g < w.heap.size ∧ ∀ j, j < (memN S k).length → w.cell? ⟨g, off + j, none⟩ = some (.int .i64 ((memN S k).getD j 0 : Nat))) := by
  obtain ⟨A, c, rfl, hl, hm, hc⟩ := h.rd
  have e : (memL S k).length = (memN S k).length := by simp [memL]
  rw [e] at hl hc
  refine ⟨A, c, by rw [e], hm, hl, fun h0 => ?_⟩
  obtain ⟨g, off, rfl, hg, hx⟩ := hc h0
  exact ⟨g, off, rfl, hg, fun j hj => by rw [hx j hj, memL_at hj, getD_nat hj]⟩
set_option maxHeartbeats 1000000 in
theorem isKing_any (s : Int) (sl : Value) (xs : List Int) (a : Nat) (w : World) (h : Rd w sl xs) (hp : tourP s xs) (ha : a < xs.length) :
    Calls Try.prog 92 #[.agg #[.int .i64 s, sl], .int .i64 a] w fun e w' => e = .returned (.bool (kingN xs a)) ∧ Below w.heap.size w w' := by
  obtain ⟨g, off, c, rfl, hm, hg, hx⟩ := tour_cells h hp
  unfold maxLen at hm
  have hs := hp.1
  have hsl := hp.2.1
  have HX := Lib.hid hx
  have HW := Lib.hid (fun j hj => (tour_wins hp (a := j) hj).2.2)
  have HM := Lib.hid (wins_mem hp ha)
  have HK := Lib.hid (fun (l : List Nat) (hl : ∀ b ∈ l, b < xs.length) => orK_lt hp hl (or_lt8 (tour_wins hp ha).2.2 (pow_lt8 (by omega : a < 8))))
  have hN : Hid (kingN xs a = (nearN xs a == 2 ^ xs.length - 1)) := rfl
  have hR : Hid (nearN xs a = orK xs (memN (winsN xs a) 8) (winsN xs a ||| 2 ^ a)) := rfl
  have hxa := hx a ha
  have h256 := HW.out a ha
  have hor := or_shl' (winsN xs a) a (by omega) (by omega)
  clear hp h hx
  generalize hn : xs.length = n at *
  obtain rfl : s = n := by omega
  have HN := Lib.hid hn
  clear hn
  go_enter Try.func92, Try.ntmps92
  go_wp2_with fail
  have b0 := below_alloc1 w (.cells #[.int .i64 n, .slice (some ⟨g, off, none⟩) n c] 27)
  have x0 := TBox.new w n (.slice (some ⟨g, off, none⟩) n c) 27
  generalize w.alloc (.cells #[.int .i64 n, .slice (some ⟨g, off, none⟩) n c] 27) = w0 at *
  have HX0 := Lib.hid x0
  have HB0 := Lib.hid b0
  clear x0 b0
  have y0_0 := HX0.out.1
  have y1_0 := HX0.out.2
  have c0 := cell_regrown ((HB0.out.cell (by exact hg)).trans hxa)
  have y0_q := cell_regrown y0_0
  have y1_q := cell_regrown y1_0
  clear y0_0 y1_0
  refine wp_region_below (by kernel_rfl) (by kernel_rfl) ?_
  repeat (go_big_quiet_step (first | (with_reducible fail)))
  refine wpQuiet_nil ?_
  intro wq hbq0
  have hbq := Lib.hid hbq0
  clear hbq0
  clear y0_q y1_q
  clear c0 hor
  have B1 := Lib.hid (Below.then HB0.out hbq.out)
  have X1 := HX0.out.below hbq.out
  have y0 := X1.1
  have y1 := X1.2
  have hxa := (B1.out.cell (by exact hg)).trans hxa
  have X1 := Lib.hid X1
  clear hbq HX0 HB0
  go_wp2_with fail
  refine (membersOf_any (winsN xs a) 8 _ h256 (by omega)).mono ?_
  rintro e w2 ⟨v, rfl, ho, hb2⟩
  obtain ⟨A, d, rfl, hd1, hd2, hl⟩ := memL_cells ho
  unfold maxLen at hd1
  have HL := Lib.hid hl
  have B2 := Lib.hid (Below.then B1.out hb2)
  have X2 := X1.out.below hb2
  clear y0 y1
  have y0 := X2.1
  have y1 := X2.2
  have HXX := Lib.hid (fun j hj => (B2.out.cell (by exact hg)).trans (HX.out j hj))
  have hm8 := memN_len (winsN xs a) 8
  clear hxa hb2 B1 X1 ho hl X2
  generalize hlst : memN (winsN xs a) 8 = L at *
  generalize winsN xs a ||| 2 ^ a = S0 at *
  generalize hLn : L.length = m at *
  have HLN := Lib.hid hLn
  clear hLn
  go_wp2
  go_loop [5, 23] (fun t i => ∃ k : Nat, k ≤ m ∧ i = .int .i64 k ∧ t = .int .i64 (orK xs (L.take k) S0 : Nat)) (fun _ i => m - (intOf i).toNat)
  case atStart => exact ⟨0, by omega, rfl, by simp [orK]⟩
  case round =>
    obtain ⟨k, hk, rfl, rfl⟩ := hrel
    have hN8 := HK.out (L.take k) (fun b hb => HM.out b (List.mem_of_mem_take hb))
    by_cases hlt : k < m
    · have hkl : k < L.length := by rw [HLN.out]; exact hlt
      obtain ⟨g', off', rfl, hg', hz⟩ := HL.out (by omega)
      have hzk := hz k hlt
      have hbn := HM.out (L.getD k 0) (by rw [getD_nat hkl]; exact List.getElem_mem hkl)
      have hxb := HXX.out (L.getD k 0) hbn
      have hw8 := HW.out (L.getD k 0) hbn
      have HST : Hid (orK xs (L.take (k + 1)) S0 = orK xs (L.take k) S0 ||| winsN xs (L.getD k 0)) := by unfold Hid; rw [take_snocN hkl, orK_snoc, getD_nat hkl]
      generalize L.getD k 0 = b at *
      generalize orK xs (L.take k) S0 = N at *
      have hor := i64_or_nat N (winsN xs b) (by omega) (by omega)
      generalize winsN xs b = wb at *
      clear hz
      go_wp2
      go_round
      case rel => exact ⟨k + 1, by omega, by go_num, by rw [HST.out]⟩
      case measure => simp [intOf]; omega
    · obtain rfl : k = m := by omega
      rw [show L.take k = L from List.take_of_length_le (by rw [HLN.out]; exact Nat.le_refl _)] at hN8 ⊢
      have hfull := full_nat n (by omega)
      rw [← hR.out] at hN8 ⊢
      go_wp2
      go_ret
      refine ⟨ret_bool ?_, B2.out⟩
      rw [hN.out]
      first | rw [hfull] | skip
      rw [Bool.eq_iff_iff, beq_iff_eq, beq_iff_eq]
      omega
end Go.Proofs.Ytceeplhkokajhab
