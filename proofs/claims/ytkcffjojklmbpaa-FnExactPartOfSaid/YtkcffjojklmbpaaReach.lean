/- FnExactReachOf: the functions. -/
import Derived.Test.YtkcffjojklmbpaaKing
namespace Go.Proofs.Ytkcffjojklmbpaa
open Go.RowKit Go.Sort

theorem orK_ge (xs : List Int) (l : List Nat) (S : Nat) : S ≤ orK xs l S := by
  induction l generalizing S with
  | nil => exact Nat.le_refl _
  | cons b l ih =>
    unfold orK
    rw [List.foldl_cons]
    exact Nat.le_trans Nat.left_le_or (ih _)
theorem orK_ltn {n : Nat} {xs : List Int} (hw : ∀ b, b < n → winsN xs b < 2 ^ n) {l : List Nat} (hl : ∀ b ∈ l, b < n) {S : Nat} (hS : S < 2 ^ n) : orK xs l S < 2 ^ n := by
  induction l generalizing S with
  | nil => exact hS
  | cons b l ih =>
    unfold orK
    rw [List.foldl_cons]
    exact ih (fun c hc => hl c (by simp [hc])) (Nat.or_lt_two_pow hS (hw b (hl b (by simp))))
/-- more and more that the found beat, until there is no more -/
def itN (xs : List Int) (n : Nat) : Nat → Nat → Nat
  | 0, S => S
  | f + 1, S => if orK xs (memN S n) S = S then S else itN xs n f (orK xs (memN S n) S)
theorem itN_stop {xs : List Int} {n f S : Nat} (h : orK xs (memN S n) S = S) : itN xs n f S = S := by
  cases f with
  | zero => rfl
  | succ f => simp [itN, h]
theorem itN_go {xs : List Int} {n f S : Nat} (h : ¬ orK xs (memN S n) S = S) (hf : 0 < f) : itN xs n f S = itN xs n (f - 1) (orK xs (memN S n) S) := by
  obtain ⟨f, rfl⟩ : ∃ g, f = g + 1 := ⟨f - 1, by omega⟩
  simp [itN, h]
def reachN (xs : List Int) (a : Nat) : Nat := itN xs xs.length 256 (2 ^ a)
noncomputable def reachI (s : Int) (xs : List Int) (a : Int) : Int := if (tourB s xs && inB a 0 (s - 1)) = true then (reachN xs a.toNat : Int) else 0
set_option maxHeartbeats 1000000 in
theorem reach_any (s : Int) (sl : Value) (xs : List Int) (a : Nat) (w : World) (h : Rd w sl xs) (hp : tourP s xs) (ha : a < xs.length) :
    Calls Try.prog 96 #[.agg #[.int .i64 s, sl], .int .i64 a] w fun e w' => e = .returned (.int .i64 (reachN xs a : Nat)) ∧ Below w.heap.size w w' := by
  obtain ⟨g, off, c, rfl, hm, hg, hx⟩ := tour_cells h hp
  unfold maxLen at hm
  have hs := hp.1
  have hsl := hp.2.1
  have HX := Lib.hid hx
  have HW := Lib.hid (fun j hj => (tour_wins hp (a := j) hj).2.1)
  have hR : Hid (reachN xs a = itN xs xs.length 256 (2 ^ a)) := rfl
  clear hp h hx
  generalize hn : xs.length = n at *
  obtain rfl : s = n := by omega
  rw [show ((n : Int)).toNat = n from rfl] at HW
  have hn8 : n ≤ 8 := by omega
  have hp8 := pow_le hn8
  have hp0 := pow_lt8 (by omega : a < 8)
  have hpa : 2 ^ a < 2 ^ n := Nat.pow_lt_pow_right (by decide) ha
  have hshl := shl_nat a (by omega)
  clear hn
  go_enter Try.func96, Try.ntmps96
  go_wp2_with fail
  have b0 := below_alloc1 w (.cells #[.int .i64 n, .slice (some ⟨g, off, none⟩) n c] 68)
  have x0 := TBox.new w n (.slice (some ⟨g, off, none⟩) n c) 68
  generalize w.alloc (.cells #[.int .i64 n, .slice (some ⟨g, off, none⟩) n c] 68) = w0 at *
  have HX0 := Lib.hid x0
  have HB0 := Lib.hid b0
  clear x0 b0
  have y0_0 := HX0.out.1
  have y1_0 := HX0.out.2
  go_wp2
  go_loopw [5] (fun t wr => ∃ S f : Nat, t = .int .i64 S ∧ S < 2 ^ n ∧ 256 ≤ f + S ∧ Hid (reachN xs a = itN xs n f S) ∧ Below w.heap.size w wr ∧ TBox wr w.heap.size n (.slice (some ⟨g, off, none⟩) n c)) (fun t _ => 256 - (intOf t).toNat)
  case atStart => exact ⟨2 ^ a, 256, by first | rfl | exact congrArg _ hshl, hpa, Nat.le_add_right _ _, hR, HB0.out, HX0.out⟩
  case round =>
    obtain ⟨S, f, rfl, hS, hf, HF, hb, hxx⟩ := hrel
    have B1 := Lib.hid hb
    have X1 := Lib.hid hxx
    have HS := Lib.hid hS
    have hS256 : S < 256 := by omega
    clear hb hxx HB0 HX0 y0_0 y1_0 hshl
    go_wp2_with fail
    refine (membersOf_any S n _ hS (by omega)).mono ?_
    rintro e w2 ⟨v, rfl, ho, hb2⟩
    obtain ⟨A, d, rfl, hd1, hd2, hl⟩ := memL_cells ho
    unfold maxLen at hd1
    have HL := Lib.hid hl
    have B2 := Lib.hid (Below.then B1.out hb2)
    have X2 := X1.out.below hb2
    have y0 := X2.1
    have y1 := X2.2
    have HX2 := Lib.hid X2
    have HXX := Lib.hid (fun j hj => (B2.out.cell (by exact hg)).trans (HX.out j hj))
    have hm8 := memN_len S n
    have HM := Lib.hid (fun b (hb : b ∈ memN S n) => (mem_memN.1 hb).1)
    have HG := Lib.hid (orK_ge xs (memN S n) S)
    have HIT := Lib.hid (And.intro (fun h => itN_stop (xs := xs) (n := n) (f := f) (S := S) h) (fun h h2 => itN_go (xs := xs) (n := n) (f := f) (S := S) h h2))
    clear hb2 B1 X1 ho hl X2 hS
    generalize hlst : memN S n = L at *
    clear hlst
    generalize hLn : L.length = m at *
    have HLN := Lib.hid hLn
    clear hLn
    go_wp2
    go_loop [6, 15] (fun t i => ∃ k : Nat, k ≤ m ∧ i = .int .i64 k ∧ t = .int .i64 (orK xs (L.take k) S : Nat)) (fun _ i => m - (intOf i).toNat)
    case atStart => exact ⟨0, by omega, rfl, by simp [orK]⟩
    case round =>
      obtain ⟨k, hk, rfl, rfl⟩ := hrel
      have hN8 := orK_ltn HW.out (fun b hb => HM.out b (List.mem_of_mem_take hb)) (l := L.take k) HS.out
      have hN256 : orK xs (L.take k) S < 256 := by omega
      by_cases hlt : k < m
      · have hkl : k < L.length := by rw [HLN.out]; exact hlt
        obtain ⟨g', off', rfl, hg', hz⟩ := HL.out (by omega)
        have hzk := hz k hlt
        have hbn := HM.out (L.getD k 0) (by rw [getD_nat hkl]; exact List.getElem_mem hkl)
        have hxb := HXX.out (L.getD k 0) hbn
        have hw8 := HW.out (L.getD k 0) hbn
        have HST : Hid (orK xs (L.take (k + 1)) S = orK xs (L.take k) S ||| winsN xs (L.getD k 0)) := by unfold Hid; rw [take_snocN hkl, orK_snoc, getD_nat hkl]
        generalize L.getD k 0 = b at *
        generalize orK xs (L.take k) S = N at *
        have hor := i64_or_nat N (winsN xs b) (by omega) (by omega)
        generalize winsN xs b = wb at *
        clear hz
        go_wp2
        go_round
        case rel => exact ⟨k + 1, by omega, by go_num, by rw [HST.out]⟩
        case measure => simp [intOf]; omega
      · obtain rfl : k = m := by omega
        rw [show L.take k = L from List.take_of_length_le (by rw [HLN.out]; exact Nat.le_refl _)] at hN8 hN256 ⊢
        have hge := HG.out
        by_cases hT : orK xs L S = S
        · have hst := HIT.out.1 hT
          rw [hT]
          have HST := Lib.hid hst
          have hq : ((S : Int) == (S : Int)) = true := by simp
          clear hst hT hN8 hN256 hge
          go_wp2
          go_ret
          exact ⟨ret_int (by rw [HF.out, HST.out]), B2.out⟩
        · have hst := HIT.out.2 hT (by omega)
          generalize orK xs L S = T at *
          have hq : ((T : Int) == (S : Int)) = false := by simp; omega
          have HST := Lib.hid hst
          clear hst
          go_wp2
          go_roundw
          case rel => exact ⟨T, f - 1, rfl, hN8, by omega, by unfold Hid; rw [HF.out, HST.out], B2.out, HX2.out⟩
          case measure => simp [intOf]; omega
set_option maxHeartbeats 1000000 in
theorem l05Reach_any (s : Int) (sl : Value) (xs : List Int) (a : Nat) (w : World) (h : Rd w sl xs) (hp : tourP s xs) (ha : a < xs.length) :
    Calls Try.prog 92 #[.agg #[.int .i64 s, sl], .int .i64 a] w fun e w' => e = .returned (.int .i64 (reachN xs a : Nat)) ∧ Below w.heap.size w w' := by
  obtain ⟨g, off, c, rfl, hm, hg, hx⟩ := tour_cells h hp
  unfold maxLen at hm
  have hs := hp.1
  have hsl := hp.2.1
  have HX := Lib.hid hx
  have HW := Lib.hid (fun j hj => (tour_wins hp (a := j) hj).2.1)
  have hR : Hid (reachN xs a = itN xs xs.length 256 (2 ^ a)) := rfl
  clear hp h hx
  generalize hn : xs.length = n at *
  obtain rfl : s = n := by omega
  rw [show ((n : Int)).toNat = n from rfl] at HW
  have hn8 : n ≤ 8 := by omega
  have hp8 := pow_le hn8
  have hp0 := pow_lt8 (by omega : a < 8)
  have hpa : 2 ^ a < 2 ^ n := Nat.pow_lt_pow_right (by decide) ha
  have hshl := shl_nat a (by omega)
  clear hn
  go_enter Try.func92, Try.ntmps92
  go_wp2_with fail
  have b0 := below_alloc1 w (.cells #[.int .i64 n, .slice (some ⟨g, off, none⟩) n c] 68)
  have x0 := TBox.new w n (.slice (some ⟨g, off, none⟩) n c) 68
  generalize w.alloc (.cells #[.int .i64 n, .slice (some ⟨g, off, none⟩) n c] 68) = w0 at *
  have HX0 := Lib.hid x0
  have HB0 := Lib.hid b0
  clear x0 b0
  have y0_0 := HX0.out.1
  have y1_0 := HX0.out.2
  go_wp2
  go_loopw [5] (fun t wr => ∃ S f : Nat, t = .int .i64 S ∧ S < 2 ^ n ∧ 256 ≤ f + S ∧ Hid (reachN xs a = itN xs n f S) ∧ Below w.heap.size w wr ∧ TBox wr w.heap.size n (.slice (some ⟨g, off, none⟩) n c)) (fun t _ => 256 - (intOf t).toNat)
  case atStart => exact ⟨2 ^ a, 256, by first | rfl | exact congrArg _ hshl, hpa, Nat.le_add_right _ _, hR, HB0.out, HX0.out⟩
  case round =>
    obtain ⟨S, f, rfl, hS, hf, HF, hb, hxx⟩ := hrel
    have B1 := Lib.hid hb
    have X1 := Lib.hid hxx
    have HS := Lib.hid hS
    have hS256 : S < 256 := by omega
    clear hb hxx HB0 HX0 y0_0 y1_0 hshl
    have y0 := X1.out.1
    have y1 := X1.out.2
    have HXX := Lib.hid (fun j hj => (B1.out.cell (by exact hg)).trans (HX.out j hj))
    have HG := Lib.hid (orK_ge xs (memN S n) S)
    have HIT := Lib.hid (And.intro (fun h => itN_stop (xs := xs) (n := n) (f := f) (S := S) h) (fun h h2 => itN_go (xs := xs) (n := n) (f := f) (S := S) h h2))
    clear hS
    go_wp2
    go_loop [6, 14] (fun t i => ∃ k : Nat, k ≤ n ∧ i = .int .i64 k ∧ t = .int .i64 (orK xs (memN S k) S : Nat)) (fun _ i => n - (intOf i).toNat)
    case atStart => exact ⟨0, by omega, rfl, by simp [orK, memN]⟩
    case round =>
      obtain ⟨k, hk, rfl, rfl⟩ := hrel
      have hN8 := orK_ltn HW.out (fun b hb => Nat.lt_of_lt_of_le (mem_memN.1 hb).1 hk) (l := memN S k) HS.out
      have hN256 : orK xs (memN S k) S < 256 := by omega
      by_cases hlt : k < n
      · have hxb := HXX.out k hlt
        have hw8 := HW.out k hlt
        have hms := memN_succ S k
        have hbit := bit_test S k
        have HSTY : Hid (S.testBit k = true → orK xs (memN S (k + 1)) S = orK xs (memN S k) S ||| winsN xs k) := fun h => by rw [hms, h, if_pos rfl, orK_snoc]
        have HSTN : Hid (S.testBit k = false → orK xs (memN S (k + 1)) S = orK xs (memN S k) S) := fun h => by rw [hms, h]; simp
        clear hms
        generalize orK xs (memN S k) S = N at *
        have hor := i64_or_nat N (winsN xs k) (by omega) (by omega)
        generalize winsN xs k = wb at *
        rcases hB : S.testBit k with _ | _
        · rw [hB] at hbit
          go_wp2
          go_round
          case rel => exact ⟨k + 1, by omega, by go_num, by rw [HSTN.out hB]⟩
          case measure => simp [intOf]; omega
        · rw [hB] at hbit
          go_wp2
          go_round
          case rel => exact ⟨k + 1, by omega, by go_num, by rw [HSTY.out hB]⟩
          case measure => simp [intOf]; omega
      · obtain rfl : k = n := by omega
        have hge := HG.out
        by_cases hT : orK xs (memN S k) S = S
        · have hst := HIT.out.1 hT
          rw [hT]
          have HST := Lib.hid hst
          have hq : ((S : Int) == (S : Int)) = true := by simp
          clear hst hT hN8 hN256 hge
          go_wp2
          go_ret
          exact ⟨ret_int (by rw [HF.out, HST.out]), B1.out⟩
        · have hst := HIT.out.2 hT (by omega)
          generalize orK xs (memN S k) S = T at *
          have hq : ((T : Int) == (S : Int)) = false := by simp; omega
          have HST := Lib.hid hst
          clear hst
          go_wp2
          go_roundw
          case rel => exact ⟨T, f - 1, rfl, hN8, by omega, by unfold Hid; rw [HF.out, HST.out], B1.out, X1.out⟩
          case measure => simp [intOf]; omega
end Go.Proofs.Ytkcffjojklmbpaa
