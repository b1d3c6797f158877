/- Texts put together: Ways, Reach, Climb, Defeat, SortI, Idx, Clone, Way, Ord, Cmpc, Pord, SymP, SortP. -/
import Derived.Test.YtcmpioalnpmpmaaMPowers02
import Derived.Test.YtcmpioalnpmpmaaMPowers03
import Derived.Test.YtcmpioalnpmpmaaMPowers01
import Derived.Deep.RegionLaw
import Derived.Deep.RegionHeld3
import Derived.Lib.SliceRun
namespace Go.Proofs.Ytcmpioalnpmpmaa
open Go.RowKit Go.Sort

/-- the ways from a through all of S -/
def waysN (xs : List Int) (n : Nat) : Nat → Nat → Nat → Nat
  | 0, _, _ => 1
  | f + 1, S, a => if S = 0 then 1 else ((memN (S &&& winsN xs a) n).map fun b => waysN xs n f (less S (2 ^ b)) b).sum
theorem memN_nodup (S n : Nat) : (memN S n).Nodup := List.Pairwise.filter _ List.nodup_range
theorem memN_less (S n b : Nat) : memN (less S (2 ^ b)) n = (memN S n).filter (· != b) := by
  unfold memN
  rw [List.filter_filter]
  refine List.filter_congr fun x _ => ?_
  rw [testBit_less, Nat.testBit_two_pow, Bool.and_comm]
  congr 1
  by_cases e : b = x
  · subst e; simp
  · have : ¬ x = b := fun h => e h.symm
    simp [e, this]
theorem card_less {S n b : Nat} (h : b ∈ memN S n) : (memN (less S (2 ^ b)) n).length + 1 = (memN S n).length := by
  rw [memN_less, ← (memN_nodup S n).erase_eq_filter, List.length_erase_of_mem h]
  have := List.length_pos_of_mem h
  omega
theorem card_zero {S n : Nat} (hS : S < 2 ^ n) : (memN S n).length = 0 ↔ S = 0 := by
  constructor
  · intro h
    have h0 : memN S n = [] := List.length_eq_zero_iff.1 h
    apply Nat.eq_of_testBit_eq
    intro j
    rw [Nat.zero_testBit]
    rcases Nat.lt_or_ge j n with hj | hj
    · rcases hb : S.testBit j with _ | _
      · rfl
      · have : j ∈ memN S n := mem_memN.2 ⟨hj, hb⟩
        rw [h0] at this; cases this
    · exact Nat.testBit_lt_two_pow (Nat.lt_of_lt_of_le hS (Nat.pow_le_pow_right (by decide) hj))
  · rintro rfl
    simp [memN]
theorem sum_le {l : List Nat} {F : Nat → Nat} {B : Nat} (h : ∀ b ∈ l, F b ≤ B) : (l.map F).sum ≤ l.length * B := by
  induction l with
  | nil => simp
  | cons b l ih =>
    rw [List.map_cons, List.sum_cons, List.length_cons, Nat.succ_mul]
    have := h b (by simp)
    have := ih fun c hc => h c (by simp [hc])
    omega
theorem waysN_le (xs : List Int) (n : Nat) (hn : n ≤ 8) (f S a : Nat) (hf : (memN S n).length ≤ f) : waysN xs n f S a ≤ 8 ^ (memN S n).length := by
  induction f generalizing S a with
  | zero => simp only [waysN]; exact Nat.one_le_pow _ _ (by decide)
  | succ f ih =>
    simp only [waysN]
    split
    · exact Nat.one_le_pow _ _ (by decide)
    · have hmem : ∀ b ∈ memN (S &&& winsN xs a) n, b ∈ memN S n := fun b hb => by
        have := mem_memN.1 hb
        rw [Nat.testBit_and, Bool.and_eq_true] at this
        exact mem_memN.2 ⟨this.1, this.2.1⟩
      rcases hc : (memN S n).length with _ | c
      · have : memN (S &&& winsN xs a) n = [] := by
          rw [List.eq_nil_iff_forall_not_mem]
          intro b hb
          have := List.length_pos_of_mem (hmem b hb); omega
        rw [this]; simp
      · refine Nat.le_trans (sum_le (B := 8 ^ c) fun b hb => ?_) ?_
        · have h1 := card_less (hmem b hb)
          have := ih (less S (2 ^ b)) b (by omega)
          rwa [show (memN (less S (2 ^ b)) n).length = c by omega] at this
        · rw [Nat.pow_succ, Nat.mul_comm]
          exact Nat.mul_le_mul_left _ (Nat.le_trans (memN_len _ _) hn)
theorem sum_take {l : List Nat} {F : Nat → Nat} {k : Nat} (hk : k < l.length) : ((l.take (k + 1)).map F).sum = ((l.take k).map F).sum + F (l.getD k 0) := by
  rw [take_snocN hk, List.map_append, List.sum_append, getD_nat hk]; simp
noncomputable def waysI (s : Int) (xs : List Int) (a : Int) : Int := if (tourB s xs && inB a 0 (s - 1)) = true then (waysN xs xs.length 8 (less (2 ^ xs.length - 1) (2 ^ a.toNat)) a.toNat : Int) else -1
theorem wins_less {n S W : Nat} (hW : W < 2 ^ n) : less W (less (2 ^ n - 1) S) = S &&& W := Nat.eq_of_testBit_eq fun j => by
  rw [testBit_less, testBit_less, testBit_full, Nat.testBit_and]
  rcases Nat.lt_or_ge j n with hj | hj
  · simp only [hj, decide_true, Bool.true_and, Bool.not_not]
    rw [Bool.and_comm]
  · rw [Nat.testBit_lt_two_pow (Nat.lt_of_lt_of_le hW (Nat.pow_le_pow_right (by decide) hj))]; simp
theorem met_more {n S b : Nat} (hb : b < n) : less (2 ^ n - 1) S ||| 2 ^ b = less (2 ^ n - 1) (less S (2 ^ b)) := Nat.eq_of_testBit_eq fun j => by
  rw [Nat.testBit_or, testBit_less, testBit_less, testBit_less, testBit_full, Nat.testBit_two_pow]
  by_cases e : b = j
  · subst e; simp [hb]
  · simp [e]
theorem met_all {n S : Nat} (hS : S < 2 ^ n) : less (2 ^ n - 1) S = 2 ^ n - 1 ↔ S = 0 := by
  constructor
  · intro h
    apply Nat.eq_of_testBit_eq
    intro j
    rw [Nat.zero_testBit]
    rcases Nat.lt_or_ge j n with hj | hj
    · have := congrArg (fun x => Nat.testBit x j) h
      simp only [testBit_less, testBit_full, hj, decide_true, Bool.true_and] at this
      simpa using this
    · exact Nat.testBit_lt_two_pow (Nat.lt_of_lt_of_le hS (Nat.pow_le_pow_right (by decide) hj))
  · rintro rfl
    exact Nat.eq_of_testBit_eq fun j => by rw [testBit_less]; simp
theorem less_full_lt (n S : Nat) : less (2 ^ n - 1) S < 2 ^ n := less_lt (by have := Nat.two_pow_pos n; omega)
set_option maxHeartbeats 400000 in
theorem countWays_zero (s : Int) (sl : Value) (xs : List Int) (hp : tourP s xs) (a met : Nat) (w : World) (h : Rd w sl xs) (hm : met = 2 ^ xs.length - 1) :
    Calls Try.prog 107 #[.agg #[.int .i64 s, sl], .int .i64 a, .int .i64 met] w fun e w' => e = .returned (.int .i64 1) ∧ Below w.heap.size w w' := by
  obtain ⟨g, off, c, rfl, hmm, hg, -⟩ := tour_cells h hp
  have hs := hp.1
  have hsl := hp.2.1
  generalize hn : xs.length = n at *
  obtain rfl : s = n := by omega
  have hfull := full_nat n (by omega)
  have hq : ((met : Int) == ((2 ^ n - 1 : Nat) : Int)) = true := by rw [hm]; simp
  clear hn hp h hm
  go_enter Try.func107, Try.ntmps107
  go_wp2_with fail
  have b0 := below_alloc1 w (.cells #[.int .i64 n, .slice (some ⟨g, off, none⟩) n c] 25)
  have x0 := TBox.new w n (.slice (some ⟨g, off, none⟩) n c) 25
  generalize w.alloc (.cells #[.int .i64 n, .slice (some ⟨g, off, none⟩) n c] 25) = w0 at *
  have HX0 := Lib.hid x0
  have HB0 := Lib.hid b0
  clear x0 b0
  have y0_0 := HX0.out.1
  have y1_0 := HX0.out.2
  go_wp2
  go_ret
  exact ⟨rfl, HB0.out⟩
set_option maxHeartbeats 2000000 in
theorem countWays_any (s : Int) (sl : Value) (xs : List Int) (hp : tourP s xs) (f : Nat) : ∀ (S a met : Nat) (w : World) (_ : Rd w sl xs) (_ : a < xs.length) (_ : S < 2 ^ xs.length) (_ : (memN S xs.length).length ≤ f) (_ : met = less (2 ^ xs.length - 1) S),
    Calls Try.prog 107 #[.agg #[.int .i64 s, sl], .int .i64 a, .int .i64 met] w fun e w' => e = .returned (.int .i64 (waysN xs xs.length f S a : Nat)) ∧ Below w.heap.size w w' := by
  induction f with
  | zero =>
    intro S a met w h ha hS hf hm
    have h0 : S = 0 := (card_zero hS).1 (by omega)
    subst h0
    exact countWays_zero s sl xs hp a met w h (by rw [hm]; exact (met_all hS).2 rfl)
  | succ f ih =>
    intro S a met w h ha hS hf hm
    by_cases h0 : S = 0
    · subst h0
      have := countWays_zero s sl xs hp a met w h (by rw [hm]; exact (met_all hS).2 rfl)
      simpa [waysN] using this
    have IH := Lib.hid ih
    clear ih
    have HRD := Lib.hid h
    obtain ⟨g, off, c, rfl, hmm, hg, hx⟩ := tour_cells h hp
    unfold maxLen at hmm
    have hs := hp.1
    have hsl := hp.2.1
    have hw := (tour_wins hp (a := a) ha).2.1
    have hxa := hx a ha
    have HWN : Hid (waysN xs xs.length (f + 1) S a = ((memN (S &&& winsN xs a) xs.length).map fun b => waysN xs xs.length f (less S (2 ^ b)) b).sum) := by unfold Hid; simp [waysN, h0]
    have HMEM := Lib.hid (fun b (hb : b ∈ memN (S &&& winsN xs a) xs.length) => show b < xs.length ∧ b ∈ memN S xs.length from by
      have := mem_memN.1 hb
      rw [Nat.testBit_and, Bool.and_eq_true] at this
      exact ⟨this.1, mem_memN.2 ⟨this.1, this.2.1⟩⟩)
    have HLE := Lib.hid (fun b (hb : b ∈ memN S xs.length) => waysN_le xs xs.length (by omega) f (less S (2 ^ b)) b (by have := card_less hb; omega))
    clear hp h hx
    generalize hn : xs.length = n at *
    obtain rfl : s = n := by omega
    rw [show ((n : Int)).toNat = n from rfl] at hw
    have hn8 : n ≤ 8 := by omega
    have hp8 := pow_le hn8
    have hfull := full_nat n hn8
    have hml : met < 2 ^ n := by rw [hm]; exact less_full_lt n S
    have hne : ¬ met = 2 ^ n - 1 := by rw [hm, met_all hS]; exact h0
    have hq : ((met : Int) == ((2 ^ n - 1 : Nat) : Int)) = false := by
      have : ¬ (met : Int) = ((2 ^ n - 1 : Nat) : Int) := fun e => hne (Int.ofNat.inj e)
      simpa using this
    have hand := i64_andNot_nat (winsN xs a) met (by omega) (by omega)
    have hle : less (winsN xs a) met = S &&& winsN xs a := by rw [hm]; exact wins_less hw
    rw [hle] at hand
    have hSW : S &&& winsN xs a < 2 ^ n := Nat.and_lt_two_pow _ hw
    have HN := Lib.hid hn
    have HS := Lib.hid hS
    have HF := Lib.hid hf
    have HM := Lib.hid hm
    clear hn hle hne hm hf h0
    go_enter Try.func107, Try.ntmps107
    go_wp2_with fail
    have b0 := below_alloc1 w (.cells #[.int .i64 n, .slice (some ⟨g, off, none⟩) n c] 25)
    have x0 := TBox.new w n (.slice (some ⟨g, off, none⟩) n c) 25
    generalize w.alloc (.cells #[.int .i64 n, .slice (some ⟨g, off, none⟩) n c] 25) = w0 at *
    have HX0 := Lib.hid x0
    have HB0 := Lib.hid b0
    clear x0 b0
    have y0_0 := HX0.out.1
    have y1_0 := HX0.out.2
    have hxa := (HB0.out.cell (by exact hg)).trans hxa
    go_wp2_with fail
    refine (membersOf_any (S &&& winsN xs a) n _ hSW (by omega)).mono ?_
    rintro e w2 ⟨v, rfl, ho, hb2⟩
    obtain ⟨A, d, rfl, hd1, hd2, hl⟩ := memL_cells ho
    unfold maxLen at hd1
    have HL := Lib.hid hl
    have B2 := Lib.hid (Below.then HB0.out hb2)
    have X2 := Lib.hid (HX0.out.below hb2)
    have hm8 := memN_len (S &&& winsN xs a) n
    clear hb2 ho hl HB0 HX0 y0_0 y1_0 hxa hand hfull hq
    generalize memN (S &&& winsN xs a) n = L at *
    generalize hLn : L.length = m at *
    have HLN := Lib.hid hLn
    clear hLn
    have hcard : Hid (0 < m → 0 < (memN S n).length) := fun h => by
      have h1 : L.getD 0 0 ∈ L := by rw [getD_nat (by rw [HLN.out]; exact h)]; exact List.getElem_mem _
      exact List.length_pos_of_mem (HMEM.out _ h1).2
    go_wp2
    go_loopw [7, 25] (fun t i wr => ∃ k : Nat, k ≤ m ∧ i = .int .i64 k ∧ t = .int .i64 (((L.take k).map fun b => waysN xs n f (less S (2 ^ b)) b).sum : Nat) ∧ Below w2.heap.size w2 wr ∧ TBox wr w.heap.size n (.slice (some ⟨g, off, none⟩) n c)) (fun _ i _ => m - (intOf i).toNat)
    case atStart => exact ⟨0, by omega, rfl, by simp, Below.refl _ _, X2.out⟩
    case round =>
      obtain ⟨k, hk, rfl, rfl, hb, hxx⟩ := hrel
      have HB := Lib.hid hb
      have HX := Lib.hid hxx
      have y0_0 := hxx.1
      have y1_0 := hxx.2
      clear hb hxx
      by_cases hlt : k < m
      · have hkl : k < L.length := by rw [HLN.out]; exact hlt
        obtain ⟨g', off', rfl, hg', hz⟩ := HL.out (by omega)
        have hzk := (HB.out.cell (by exact hg')).trans (hz k hlt)
        have hbL : L.getD k 0 ∈ L := by rw [getD_nat hkl]; exact List.getElem_mem hkl
        have hbm := HMEM.out _ hbL
        have hcl := card_less hbm.2
        have hfb := HLE.out _ hbm.2
        have hcl8 := memN_len S n
        have hpow : 8 ^ (memN (less S (2 ^ (L.getD k 0))) n).length ≤ 8 ^ 7 := Nat.pow_le_pow_right (by decide) (by omega)
        have hsum : ((L.take k).map fun b => waysN xs n f (less S (2 ^ b)) b).sum ≤ 8 * 8 ^ 7 := by
          refine Nat.le_trans (sum_le (B := 8 ^ 7) fun b hb => ?_) ?_
          · have h2 := (HMEM.out b (List.mem_of_mem_take hb)).2
            have h3 := card_less h2
            exact Nat.le_trans (HLE.out b h2) (Nat.pow_le_pow_right (by decide) (by omega))
          · exact Nat.mul_le_mul_right _ (by rw [List.length_take]; omega)
        rw [show (8 : Nat) ^ 7 = 2097152 from by decide] at hpow hsum
        have HST := Lib.hid (sum_take (F := fun b => waysN xs n f (less S (2 ^ b)) b) hkl)
        have hless := less_lt (S := S) (b := 2 ^ (L.getD k 0)) HS.out
        have hmore := met_more (S := S) hbm.1
        rw [← HM.out] at hmore
        generalize L.getD k 0 = b at *
        generalize ((L.take k).map fun b => waysN xs n f (less S (2 ^ b)) b).sum = T at *
        have hor := or_shl met b (by omega) (by omega)
        have hF := HF.out
        have k1 := quiet_below (w := wr) (fun W hW => IH.out (less S (2 ^ b)) b (met ||| 2 ^ b) W (((HRD.out.below B2.out).below HB.out).below hW) hbm.1 hless (by omega) hmore)
        have hFb : Hid (waysN xs n f (less S (2 ^ b)) b ≤ 2097152) := Nat.le_trans hfb hpow
        have hFb' := hFb.out
        clear hz hfb hpow hmore hcl
        generalize waysN xs n f (less S (2 ^ b)) b = F at *
        go_wp2_with fail
        have y0_q := cell_regrown y0_0
        have y1_q := cell_regrown y1_0
        clear y0_0 y1_0
        refine wp_region_below (by kernel_rfl) (by kernel_rfl) ?_
        repeat (go_big_quiet_step (first | (with_reducible exact k1 _ _)))
        refine wpQuiet_nil ?_
        intro wq hbq0
        have hbq := Lib.hid hbq0
        clear hbq0
        clear y0_q y1_q
        go_wp2
        go_roundw
        case rel => exact ⟨k + 1, by omega, by go_num, by rw [HST.out]; go_num, Below.then HB.out hbq.out, HX.out.below hbq.out⟩
        case measure => simp [intOf]; omega
      · obtain rfl : k = m := by omega
        rw [show L.take k = L from List.take_of_length_le (by rw [HLN.out]; exact Nat.le_refl _)]
        go_wp2
        go_ret
        exact ⟨ret_int (by rw [HWN.out]), Below.then B2.out HB.out⟩
theorem sub_shl (U a : Nat) (hU : U < 256) (ha : a < 8) (h : U.testBit a = true) : wrap64 ((U : Int) - wrap64 (2 ^ a)) = ((less U (2 ^ a) : Nat) : Int) := by
  have h2 := sub_less (S := U) (a := a) (Nat.lt_trans hU (by decide)) (by omega) h
  have h3 : 2 ^ a ≤ U := Nat.ge_two_pow_of_testBit h
  have h5 : U - 2 ^ a < 9223372036854775808 := Nat.lt_of_le_of_lt (Nat.sub_le _ _) (by omega)
  rw [shl_nat a (by omega), ← h2, ← Int.natCast_sub h3]
  exact wrap64_nat _ h5
theorem less_less {n a : Nat} (h : a < n) : 2 ^ a = less (2 ^ n - 1) (less (2 ^ n - 1) (2 ^ a)) := Nat.eq_of_testBit_eq fun j => by
  rw [testBit_less, testBit_less, testBit_full, Nat.testBit_two_pow]
  by_cases e : a = j
  · subst e; simp [h]
  · simp [e]
set_option maxHeartbeats 1000000 in
theorem implCountWays (s : Int) (sl : Value) (xs : List Int) (a : Int) (w : World) (h : Rd w sl xs) :
    Calls Try.prog 48 #[.agg #[.int .i64 s, sl], .int .i64 a] w fun e w' => e = .returned (.int .i64 (waysI s xs a)) ∧ Below w.heap.size w w' := by
  have HR := Lib.hid h
  obtain ⟨A, c, rfl, -, -, -⟩ := h
  rcases q0 : tourB s xs with _ | _
  case false =>
    go_enter Try.func48, Try.ntmps48
    go_wp2_with fail
    have b0 := below_alloc1 w (.cells #[.int .i64 s, .slice A xs.length c] 25)
    have x0 := TBox.new w s (.slice A xs.length c) 25
    generalize w.alloc (.cells #[.int .i64 s, .slice A xs.length c] 25) = w0 at *
    have HX0 := Lib.hid x0
    have HB0 := Lib.hid b0
    clear x0 b0
    have y0_0 := HX0.out.1
    have y1_0 := HX0.out.2
    go_wp2_with fail
    refine (implTourOk s _ xs _ (HR.out.below HB0.out)).mono ?_
    rintro e w1 ⟨rfl, hb⟩
    have HX1 := Lib.hid (HX0.out.below hb)
    have HB1 := Lib.hid (Below.then HB0.out hb)
    clear hb HX0 HB0 y0_0 y1_0
    have y0_1 := HX1.out.1
    have y1_1 := HX1.out.2
    rw [q0]
    go_wp2
    go_ret
    exact ⟨ret_int (by simp [waysI, *]), HB1.out⟩
  have hp := tourB_true.1 q0
  have hs := hp.1
  have hl := hp.2.1
  rcases q1 : inB a 0 (s - 1) with _ | _
  case false =>
    go_enter Try.func48, Try.ntmps48
    go_wp2_with fail
    have b0 := below_alloc1 w (.cells #[.int .i64 s, .slice A xs.length c] 25)
    have x0 := TBox.new w s (.slice A xs.length c) 25
    generalize w.alloc (.cells #[.int .i64 s, .slice A xs.length c] 25) = w0 at *
    have HX0 := Lib.hid x0
    have HB0 := Lib.hid b0
    clear x0 b0
    have y0_0 := HX0.out.1
    have y1_0 := HX0.out.2
    go_wp2_with fail
    refine (implTourOk s _ xs _ (HR.out.below HB0.out)).mono ?_
    rintro e w1 ⟨rfl, hb⟩
    have HX1 := Lib.hid (HX0.out.below hb)
    have HB1 := Lib.hid (Below.then HB0.out hb)
    clear hb HX0 HB0 y0_0 y1_0
    have y0_1 := HX1.out.1
    have y1_1 := HX1.out.2
    rw [q0]
    go_wp2_with fail
    refine (has_any s (.slice A xs.length c) a _ (by omega)).mono ?_
    rintro e w2 ⟨rfl, hb⟩
    have HX2 := Lib.hid (HX1.out.below hb)
    have HB2 := Lib.hid (Below.then HB1.out hb)
    clear hb HX1 HB1 y0_1 y1_1
    have y0_2 := HX2.out.1
    have y1_2 := HX2.out.2
    rw [q1]
    go_wp2
    go_ret
    exact ⟨ret_int (by simp [waysI, *]), HB2.out⟩
  have ha := inB_true.1 q1
  go_enter Try.func48, Try.ntmps48
  go_wp2_with fail
  have b0 := below_alloc1 w (.cells #[.int .i64 s, .slice A xs.length c] 25)
  have x0 := TBox.new w s (.slice A xs.length c) 25
  generalize w.alloc (.cells #[.int .i64 s, .slice A xs.length c] 25) = w0 at *
  have HX0 := Lib.hid x0
  have HB0 := Lib.hid b0
  clear x0 b0
  have y0_0 := HX0.out.1
  have y1_0 := HX0.out.2
  go_wp2_with fail
  refine (implTourOk s _ xs _ (HR.out.below HB0.out)).mono ?_
  rintro e w1 ⟨rfl, hb⟩
  have HX1 := Lib.hid (HX0.out.below hb)
  have HB1 := Lib.hid (Below.then HB0.out hb)
  clear hb HX0 HB0 y0_0 y1_0
  have y0_1 := HX1.out.1
  have y1_1 := HX1.out.2
  rw [q0]
  go_wp2_with fail
  refine (has_any s (.slice A xs.length c) a _ (by omega)).mono ?_
  rintro e w2 ⟨rfl, hb⟩
  have HX2 := Lib.hid (HX1.out.below hb)
  have HB2 := Lib.hid (Below.then HB1.out hb)
  clear hb HX1 HB1 y0_1 y1_1
  have y0_2 := HX2.out.1
  have y1_2 := HX2.out.2
  rw [q1]
  have hF : Hid (waysI s xs a = waysN xs xs.length 8 (less (2 ^ xs.length - 1) (2 ^ a.toNat)) a.toNat) := by unfold Hid; simp [waysI, q0, q1]
  obtain ⟨n, rfl⟩ := Int.eq_ofNat_of_zero_le ha.1
  rw [show ((n : Int)).toNat = n from rfl] at hF
  have hn : n < xs.length := by omega
  have h8 := memN_len (less (2 ^ xs.length - 1) (2 ^ n)) xs.length
  have hshl := shl_nat n (by omega)
  have k1 := quiet_below (w := w2) (fun W hW => countWays_any s _ xs hp 8 (less (2 ^ xs.length - 1) (2 ^ n)) n (2 ^ n) W ((HR.out.below HB2.out).below hW) hn (less_full_lt _ _) (by omega) (less_less hn))
  rw [← hshl] at k1
  clear hp hshl
  have y0_0 := y0_2
  have y1_0 := y1_2
  go_wp2_with fail
  have y0_q := cell_regrown y0_0
  have y1_q := cell_regrown y1_0
  clear y0_0 y1_0
  refine wp_region_below (by kernel_rfl) (by kernel_rfl) ?_
  repeat (go_big_quiet_step (first | (with_reducible exact k1 _ _)))
  refine wpQuiet_nil ?_
  intro wq hbq0
  have hbq := Lib.hid hbq0
  clear hbq0
  clear y0_q y1_q
  go_wp2
  go_ret
  exact ⟨ret_int hF.out.symm, Below.then HB2.out hbq.out⟩
end Go.Proofs.Ytcmpioalnpmpmaa

namespace Go.Proofs.Ytcmpioalnpmpmaa
open Go.RowKit Go.Sort

theorem orK_ge (xs : List Int) (l : List Nat) (S : Nat) : S ≤ orK xs l S := by
  induction l generalizing S with
  | nil => exact Nat.le_refl _
  | cons b l ih =>
    unfold orK
    rw [List.foldl_cons]
    exact Nat.le_trans Nat.left_le_or (ih _)
theorem orK_ltn {n : Nat} {xs : List Int} (hw : ∀ b, b < n → winsN xs b < 2 ^ n) {l : List Nat} (hl : ∀ b ∈ l, b < n) {S : Nat} (hS : S < 2 ^ n) : orK xs l S < 2 ^ n := by
  induction l generalizing S with
  | nil => exact hS
  | cons b l ih =>
    unfold orK
    rw [List.foldl_cons]
    exact ih (fun c hc => hl c (by simp [hc])) (Nat.or_lt_two_pow hS (hw b (hl b (by simp))))
/-- more and more that the found beat, until there is no more -/
def itN (xs : List Int) (n : Nat) : Nat → Nat → Nat
  | 0, S => S
  | f + 1, S => if orK xs (memN S n) S = S then S else itN xs n f (orK xs (memN S n) S)
theorem itN_stop {xs : List Int} {n f S : Nat} (h : orK xs (memN S n) S = S) : itN xs n f S = S := by
  cases f with
  | zero => rfl
  | succ f => simp [itN, h]
theorem itN_go {xs : List Int} {n f S : Nat} (h : ¬ orK xs (memN S n) S = S) (hf : 0 < f) : itN xs n f S = itN xs n (f - 1) (orK xs (memN S n) S) := by
  obtain ⟨f, rfl⟩ : ∃ g, f = g + 1 := ⟨f - 1, by omega⟩
  simp [itN, h]
def reachN (xs : List Int) (a : Nat) : Nat := itN xs xs.length 256 (2 ^ a)
noncomputable def reachI (s : Int) (xs : List Int) (a : Int) : Int := if (tourB s xs && inB a 0 (s - 1)) = true then (reachN xs a.toNat : Int) else 0
set_option maxHeartbeats 1000000 in
theorem reach_any (s : Int) (sl : Value) (xs : List Int) (a : Nat) (w : World) (h : Rd w sl xs) (hp : tourP s xs) (ha : a < xs.length) :
    Calls Try.prog 96 #[.agg #[.int .i64 s, sl], .int .i64 a] w fun e w' => e = .returned (.int .i64 (reachN xs a : Nat)) ∧ Below w.heap.size w w' := by
  obtain ⟨g, off, c, rfl, hm, hg, hx⟩ := tour_cells h hp
  unfold maxLen at hm
  have hs := hp.1
  have hsl := hp.2.1
  have HX := Lib.hid hx
  have HW := Lib.hid (fun j hj => (tour_wins hp (a := j) hj).2.1)
  have hR : Hid (reachN xs a = itN xs xs.length 256 (2 ^ a)) := rfl
  clear hp h hx
  generalize hn : xs.length = n at *
  obtain rfl : s = n := by omega
  rw [show ((n : Int)).toNat = n from rfl] at HW
  have hn8 : n ≤ 8 := by omega
  have hp8 := pow_le hn8
  have hp0 := pow_lt8 (by omega : a < 8)
  have hpa : 2 ^ a < 2 ^ n := Nat.pow_lt_pow_right (by decide) ha
  have hshl := shl_nat a (by omega)
  clear hn
  go_enter Try.func96, Try.ntmps96
  go_wp2_with fail
  have b0 := below_alloc1 w (.cells #[.int .i64 n, .slice (some ⟨g, off, none⟩) n c] 25)
  have x0 := TBox.new w n (.slice (some ⟨g, off, none⟩) n c) 25
  generalize w.alloc (.cells #[.int .i64 n, .slice (some ⟨g, off, none⟩) n c] 25) = w0 at *
  have HX0 := Lib.hid x0
  have HB0 := Lib.hid b0
  clear x0 b0
  have y0_0 := HX0.out.1
  have y1_0 := HX0.out.2
  go_wp2
  go_loopw [5] (fun t wr => ∃ S f : Nat, t = .int .i64 S ∧ S < 2 ^ n ∧ 256 ≤ f + S ∧ Hid (reachN xs a = itN xs n f S) ∧ Below w.heap.size w wr ∧ TBox wr w.heap.size n (.slice (some ⟨g, off, none⟩) n c)) (fun t _ => 256 - (intOf t).toNat)
  case atStart => exact ⟨2 ^ a, 256, by first | rfl | exact congrArg _ hshl, hpa, Nat.le_add_right _ _, hR, HB0.out, HX0.out⟩
  case round =>
    obtain ⟨S, f, rfl, hS, hf, HF, hb, hxx⟩ := hrel
    have B1 := Lib.hid hb
    have X1 := Lib.hid hxx
    have HS := Lib.hid hS
    have hS256 : S < 256 := by omega
    clear hb hxx HB0 HX0 y0_0 y1_0 hshl
    go_wp2_with fail
    refine (membersOf_any S n _ hS (by omega)).mono ?_
    rintro e w2 ⟨v, rfl, ho, hb2⟩
    obtain ⟨A, d, rfl, hd1, hd2, hl⟩ := memL_cells ho
    unfold maxLen at hd1
    have HL := Lib.hid hl
    have B2 := Lib.hid (Below.then B1.out hb2)
    have X2 := X1.out.below hb2
    have y0 := X2.1
    have y1 := X2.2
    have HX2 := Lib.hid X2
    have HXX := Lib.hid (fun j hj => (B2.out.cell (by exact hg)).trans (HX.out j hj))
    have hm8 := memN_len S n
    have HM := Lib.hid (fun b (hb : b ∈ memN S n) => (mem_memN.1 hb).1)
    have HG := Lib.hid (orK_ge xs (memN S n) S)
    have HIT := Lib.hid (And.intro (fun h => itN_stop (xs := xs) (n := n) (f := f) (S := S) h) (fun h h2 => itN_go (xs := xs) (n := n) (f := f) (S := S) h h2))
    clear hb2 B1 X1 ho hl X2 hS
    generalize hlst : memN S n = L at *
    clear hlst
    generalize hLn : L.length = m at *
    have HLN := Lib.hid hLn
    clear hLn
    go_wp2
    go_loop [6, 15] (fun t i => ∃ k : Nat, k ≤ m ∧ i = .int .i64 k ∧ t = .int .i64 (orK xs (L.take k) S : Nat)) (fun _ i => m - (intOf i).toNat)
    case atStart => exact ⟨0, by omega, rfl, by simp [orK]⟩
    case round =>
      obtain ⟨k, hk, rfl, rfl⟩ := hrel
      have hN8 := orK_ltn HW.out (fun b hb => HM.out b (List.mem_of_mem_take hb)) (l := L.take k) HS.out
      have hN256 : orK xs (L.take k) S < 256 := by omega
      by_cases hlt : k < m
      · have hkl : k < L.length := by rw [HLN.out]; exact hlt
        obtain ⟨g', off', rfl, hg', hz⟩ := HL.out (by omega)
        have hzk := hz k hlt
        have hbn := HM.out (L.getD k 0) (by rw [getD_nat hkl]; exact List.getElem_mem hkl)
        have hxb := HXX.out (L.getD k 0) hbn
        have hw8 := HW.out (L.getD k 0) hbn
        have HST : Hid (orK xs (L.take (k + 1)) S = orK xs (L.take k) S ||| winsN xs (L.getD k 0)) := by unfold Hid; rw [take_snocN hkl, orK_snoc, getD_nat hkl]
        generalize L.getD k 0 = b at *
        generalize orK xs (L.take k) S = N at *
        have hor := i64_or_nat N (winsN xs b) (by omega) (by omega)
        generalize winsN xs b = wb at *
        clear hz
        go_wp2
        go_round
        case rel => exact ⟨k + 1, by omega, by go_num, by rw [HST.out]⟩
        case measure => simp [intOf]; omega
      · obtain rfl : k = m := by omega
        rw [show L.take k = L from List.take_of_length_le (by rw [HLN.out]; exact Nat.le_refl _)] at hN8 hN256 ⊢
        have hge := HG.out
        by_cases hT : orK xs L S = S
        · have hst := HIT.out.1 hT
          rw [hT]
          have HST := Lib.hid hst
          have hq : ((S : Int) == (S : Int)) = true := by simp
          clear hst hT hN8 hN256 hge
          go_wp2
          go_ret
          exact ⟨ret_int (by rw [HF.out, HST.out]), B2.out⟩
        · have hst := HIT.out.2 hT (by omega)
          generalize orK xs L S = T at *
          have hq : ((T : Int) == (S : Int)) = false := by simp; omega
          have HST := Lib.hid hst
          clear hst
          go_wp2
          go_roundw
          case rel => exact ⟨T, f - 1, rfl, hN8, by omega, by unfold Hid; rw [HF.out, HST.out], B2.out, HX2.out⟩
          case measure => simp [intOf]; omega
set_option maxHeartbeats 1000000 in
theorem implReachOf (s : Int) (sl : Value) (xs : List Int) (a : Int) (w : World) (h : Rd w sl xs) :
    Calls Try.prog 36 #[.agg #[.int .i64 s, sl], .int .i64 a] w fun e w' => e = .returned (.int .i64 (reachI s xs a)) ∧ Below w.heap.size w w' := by
  have HR := Lib.hid h
  obtain ⟨A, c, rfl, -, -, -⟩ := h
  rcases q0 : tourB s xs with _ | _
  case false =>
    go_enter Try.func36, Try.ntmps36
    go_wp2_with fail
    have b0 := below_alloc1 w (.cells #[.int .i64 s, .slice A xs.length c] 25)
    have x0 := TBox.new w s (.slice A xs.length c) 25
    generalize w.alloc (.cells #[.int .i64 s, .slice A xs.length c] 25) = w0 at *
    have HX0 := Lib.hid x0
    have HB0 := Lib.hid b0
    clear x0 b0
    have y0_0 := HX0.out.1
    have y1_0 := HX0.out.2
    go_wp2_with fail
    refine (implTourOk s _ xs _ (HR.out.below HB0.out)).mono ?_
    rintro e w1 ⟨rfl, hb⟩
    have HX1 := Lib.hid (HX0.out.below hb)
    have HB1 := Lib.hid (Below.then HB0.out hb)
    clear hb HX0 HB0 y0_0 y1_0
    have y0_1 := HX1.out.1
    have y1_1 := HX1.out.2
    rw [q0]
    go_wp2
    go_ret
    exact ⟨ret_int (by simp [reachI, *]), HB1.out⟩
  have hp := tourB_true.1 q0
  have hs := hp.1
  have hl := hp.2.1
  rcases q1 : inB a 0 (s - 1) with _ | _
  case false =>
    go_enter Try.func36, Try.ntmps36
    go_wp2_with fail
    have b0 := below_alloc1 w (.cells #[.int .i64 s, .slice A xs.length c] 25)
    have x0 := TBox.new w s (.slice A xs.length c) 25
    generalize w.alloc (.cells #[.int .i64 s, .slice A xs.length c] 25) = w0 at *
    have HX0 := Lib.hid x0
    have HB0 := Lib.hid b0
    clear x0 b0
    have y0_0 := HX0.out.1
    have y1_0 := HX0.out.2
    go_wp2_with fail
    refine (implTourOk s _ xs _ (HR.out.below HB0.out)).mono ?_
    rintro e w1 ⟨rfl, hb⟩
    have HX1 := Lib.hid (HX0.out.below hb)
    have HB1 := Lib.hid (Below.then HB0.out hb)
    clear hb HX0 HB0 y0_0 y1_0
    have y0_1 := HX1.out.1
    have y1_1 := HX1.out.2
    rw [q0]
    go_wp2_with fail
    refine (has_any s (.slice A xs.length c) a _ (by omega)).mono ?_
    rintro e w2 ⟨rfl, hb⟩
    have HX2 := Lib.hid (HX1.out.below hb)
    have HB2 := Lib.hid (Below.then HB1.out hb)
    clear hb HX1 HB1 y0_1 y1_1
    have y0_2 := HX2.out.1
    have y1_2 := HX2.out.2
    rw [q1]
    go_wp2
    go_ret
    exact ⟨ret_int (by simp [reachI, *]), HB2.out⟩
  have ha := inB_true.1 q1
  go_enter Try.func36, Try.ntmps36
  go_wp2_with fail
  have b0 := below_alloc1 w (.cells #[.int .i64 s, .slice A xs.length c] 25)
  have x0 := TBox.new w s (.slice A xs.length c) 25
  generalize w.alloc (.cells #[.int .i64 s, .slice A xs.length c] 25) = w0 at *
  have HX0 := Lib.hid x0
  have HB0 := Lib.hid b0
  clear x0 b0
  have y0_0 := HX0.out.1
  have y1_0 := HX0.out.2
  go_wp2_with fail
  refine (implTourOk s _ xs _ (HR.out.below HB0.out)).mono ?_
  rintro e w1 ⟨rfl, hb⟩
  have HX1 := Lib.hid (HX0.out.below hb)
  have HB1 := Lib.hid (Below.then HB0.out hb)
  clear hb HX0 HB0 y0_0 y1_0
  have y0_1 := HX1.out.1
  have y1_1 := HX1.out.2
  rw [q0]
  go_wp2_with fail
  refine (has_any s (.slice A xs.length c) a _ (by omega)).mono ?_
  rintro e w2 ⟨rfl, hb⟩
  have HX2 := Lib.hid (HX1.out.below hb)
  have HB2 := Lib.hid (Below.then HB1.out hb)
  clear hb HX1 HB1 y0_1 y1_1
  have y0_2 := HX2.out.1
  have y1_2 := HX2.out.2
  rw [q1]
  have hF : Hid (reachI s xs a = reachN xs a.toNat) := by unfold Hid; simp [reachI, q0, q1]
  obtain ⟨n, rfl⟩ := Int.eq_ofNat_of_zero_le ha.1
  go_wp2_with fail
  refine (reach_any s _ xs n _ (HR.out.below HB2.out) hp (by omega)).mono ?_
  rintro e w3 ⟨rfl, hb⟩
  have HX3 := Lib.hid (HX2.out.below hb)
  have HB3 := Lib.hid (Below.then HB2.out hb)
  clear hb HX2 HB2 y0_2 y1_2
  have y0_3 := HX3.out.1
  have y1_3 := HX3.out.2
  go_wp2
  go_ret
  exact ⟨ret_int hF.out.symm, HB3.out⟩
end Go.Proofs.Ytcmpioalnpmpmaa

namespace Go.Proofs.Ytcmpioalnpmpmaa
open Go.RowKit Go.Sort

theorem pop_mem {S : Nat} (h : S < 256) : popN 8 S = (memN S 8).length := by
  have : ∀ S : Fin 256, popN 8 S.1 = (memN S.1 8).length := by decide +kernel
  exact this ⟨S, h⟩
theorem card_mono {S T n : Nat} (h : ∀ j, S.testBit j = true → T.testBit j = true) : (memN S n).length ≤ (memN T n).length := by
  unfold memN
  rw [← List.countP_eq_length_filter, ← List.countP_eq_length_filter]
  exact List.countP_mono_left fun j _ hj => h j hj
theorem testBit_orK (xs : List Int) (l : List Nat) (S j : Nat) : (orK xs l S).testBit j = (S.testBit j || l.any fun b => (winsN xs b).testBit j) := by
  induction l generalizing S with
  | nil => simp [orK]
  | cons b l ih =>
    have : orK xs (b :: l) S = orK xs l (S ||| winsN xs b) := by simp [orK]
    rw [this, ih, Nat.testBit_or, List.any_cons, Bool.or_assoc]
theorem mem_loseN {xs : List Int} {a n b : Nat} : b ∈ loseN xs a n ↔ b < n ∧ bitI (xs.getD b 0) a = true := by simp [loseN]
/-- two players: one of them beats the other one, and not both -/
theorem beat_one {s : Int} {xs : List Int} (hp : tourP s xs) {a b : Nat} (ha : a < xs.length) (hb : b < xs.length) (hab : a ≠ b) : (winsN xs a).testBit b = !(winsN xs b).testBit a := by
  have h1 : ∀ a b, a < xs.length → b < a → (winsN xs a).testBit b ≠ (winsN xs b).testBit a := fun a b ha hb => by
    have := (hp.2.2.2 a ha).2 b hb
    rwa [bit_nat hp ha, bit_nat hp (by omega : b < xs.length)] at this
  rcases Nat.lt_or_gt_of_ne hab with h | h
  · have := h1 b a hb h
    revert this; cases (winsN xs a).testBit b <;> cases (winsN xs b).testBit a <;> simp
  · have := h1 a b ha h
    revert this; cases (winsN xs a).testBit b <;> cases (winsN xs b).testBit a <;> simp
theorem beat_self {s : Int} {xs : List Int} (hp : tourP s xs) {a : Nat} (ha : a < xs.length) : (winsN xs a).testBit a = false := by
  have := (hp.2.2.2 a ha).1
  rwa [bit_nat hp ha] at this
theorem wins_hi {s : Int} {xs : List Int} (hp : tourP s xs) {a b : Nat} (ha : a < xs.length) (hb : xs.length ≤ b) : (winsN xs a).testBit b = false := by
  have h1 := (tour_wins hp ha).2.1
  have h2 := hp.2.1
  exact Nat.testBit_lt_two_pow (Nat.lt_of_lt_of_le h1 (Nat.pow_le_pow_right (by decide) (by omega)))
theorem kstK_best {xs : List Int} {a : Nat} {l : List Nat} (ha : a ∉ l) :
    (l = [] ∧ kstK xs a l = a) ∨ (kstK xs a l ∈ l ∧ ∀ b ∈ l, popN 8 (winsN xs b) ≤ popN 8 (winsN xs (kstK xs a l))) := by
  rcases List.eq_nil_or_concat l with rfl | ⟨l', b, rfl⟩
  · exact .inl ⟨rfl, rfl⟩
  · right
    rw [List.concat_eq_append] at ha ⊢
    have hn : l'.length < (l' ++ [b]).length := by simp
    have ih := kstK_best (xs := xs) (a := a) (l := l') (fun h => ha (by simp [h]))
    have hb : a ≠ b := fun h => ha (by simp [h])
    rw [kstK_snoc]
    unfold stepF
    rcases ih with ⟨rfl, e⟩ | ⟨hm, hx⟩
    · rw [e]; simp
    · have hne : kstK xs a l' ≠ a := fun h => ha (by rw [h] at hm; simp [hm])
      split
      · rename_i h
        rcases h with h | h
        · exact absurd h hne
        · refine ⟨by simp, fun c hc => ?_⟩
          rw [List.mem_append, List.mem_singleton] at hc
          rcases hc with hc | rfl
          · have := hx c hc; omega
          · exact Nat.le_refl _
      · rename_i h
        refine ⟨by simp [hm], fun c hc => ?_⟩
        rw [List.mem_append, List.mem_singleton] at hc
        rcases hc with hc | rfl
        · exact hx c hc
        · omega
termination_by l.length
/-- who is no king is beaten by someone with a greater score -/
theorem step_up {s : Int} {xs : List Int} (hp : tourP s xs) {a : Nat} (ha : a < xs.length) (hk : kingN xs a = false) : popN 8 (winsN xs a) < popN 8 (winsN xs (kstepN xs a)) := by
  have h8 : xs.length ≤ 8 := by have := hp.1; have := hp.2.1; omega
  have hex : ∃ c, c < xs.length ∧ (nearN xs a).testBit c = false := by
    refine Classical.byContradiction fun hc => ?_
    have hall : ∀ c, c < xs.length → (nearN xs a).testBit c = true := fun c h => by
      rcases q : (nearN xs a).testBit c with _ | _
      · exact absurd ⟨c, h, q⟩ hc
      · rfl
    have hlt : nearN xs a < 2 ^ xs.length := by
      have hw : ∀ b, b < xs.length → winsN xs b < 2 ^ xs.length := fun b hb => by
        have := (tour_wins hp hb).2.1
        rwa [show s.toNat = xs.length by have := hp.2.1; omega] at this
      exact orK_ltn hw (wins_mem hp ha) (Nat.or_lt_two_pow (hw a ha) (Nat.pow_lt_pow_right (by decide) ha))
    have : nearN xs a = 2 ^ xs.length - 1 := Nat.eq_of_testBit_eq fun j => by
      rw [testBit_full]
      by_cases hj : j < xs.length
      · simp [hall j hj, hj]
      · simp only [hj, decide_false]
        exact Nat.testBit_lt_two_pow (Nat.lt_of_lt_of_le hlt (Nat.pow_le_pow_right (by decide) (by omega)))
    simp [kingN, this] at hk
  obtain ⟨c, hc, hn⟩ := hex
  unfold nearN at hn
  rw [testBit_orK, Nat.testBit_or, Nat.testBit_two_pow] at hn
  simp only [Bool.or_eq_false_iff, decide_eq_false_iff_not, List.any_eq_false] at hn
  obtain ⟨⟨h1, h2⟩, h3⟩ := hn
  have hca : (winsN xs c).testBit a = true := by
    have := beat_one hp hc ha (fun e => h2 e.symm)
    rw [this, h1]; rfl
  have hsub : ∀ j, (winsN xs a).testBit j = true → (less (winsN xs c) (2 ^ a)).testBit j = true := fun j hj => by
    have hjn : j < xs.length := by
      rcases Nat.lt_or_ge j xs.length with h | h
      · exact h
      · rw [wins_hi hp ha h] at hj; simp at hj
    have hja : a ≠ j := fun e => by subst e; rw [beat_self hp ha] at hj; simp at hj
    have hjc : c ≠ j := fun e => by subst e; rw [h1] at hj; simp at hj
    have h4 : (winsN xs j).testBit c = false := by
      have := h3 j (mem_memN.2 ⟨by omega, hj⟩)
      simpa using this
    have h5 := beat_one hp hc hjn hjc
    rw [testBit_less, Nat.testBit_two_pow, h5, h4]
    simp [hja]
  have hm : a ∈ memN (winsN xs c) 8 := mem_memN.2 ⟨by omega, hca⟩
  have hcard := card_less hm
  have hle := card_mono (n := 8) hsub
  rw [← pop_mem (tour_wins hp hc).2.2] at hcard
  rw [← pop_mem (tour_wins hp ha).2.2] at hle
  have hmem : c ∈ loseN xs a xs.length := mem_loseN.2 ⟨hc, by rw [bit_nat hp hc]; exact hca⟩
  have hself : a ∉ loseN xs a xs.length := fun h => by
    have := (mem_loseN.1 h).2
    rw [bit_nat hp ha, beat_self hp ha] at this
    simp at this
  rcases kstK_best (xs := xs) hself with ⟨e, _⟩ | ⟨_, hx⟩
  · rw [e] at hmem; simp at hmem
  · have := hx c hmem
    unfold kstepN
    omega
theorem kstep_lt {xs : List Int} {a : Nat} (ha : a < xs.length) : kstepN xs a < xs.length := kstK_mem ha fun b hb => (mem_loseN.1 hb).1
def climbF (xs : List Int) : Nat → Nat → Nat
  | 0, a => a
  | f + 1, a => if kingN xs a = true then a else climbF xs f (kstepN xs a)
theorem climb_same {s : Int} {xs : List Int} (hp : tourP s xs) (f : Nat) : ∀ (a : Nat), a < xs.length → 8 - popN 8 (winsN xs a) < f → ∀ g, 8 - popN 8 (winsN xs a) < g → climbF xs f a = climbF xs g a := by
  induction f with
  | zero => intro a _ h; omega
  | succ f ih =>
    intro a ha hf g hg
    obtain ⟨g, rfl⟩ : ∃ g', g = g' + 1 := ⟨g - 1, by omega⟩
    simp only [climbF]
    rcases q : kingN xs a with _ | _
    · have := step_up hp ha q
      have := popN_le 8 (winsN xs (kstepN xs a))
      simp only [Bool.false_eq_true, if_false]
      exact ih _ (kstep_lt ha) (by omega) g (by omega)
    · simp
theorem climb_step {s : Int} {xs : List Int} (hp : tourP s xs) {a : Nat} (ha : a < xs.length) (hk : kingN xs a = false) : climbF xs 9 (kstepN xs a) = climbF xs 9 a := by
  have e : climbF xs 9 a = climbF xs 8 (kstepN xs a) := by simp [climbF, hk]
  have := step_up hp ha hk
  have := popN_le 8 (winsN xs (kstepN xs a))
  rw [e]
  exact climb_same hp 9 _ (kstep_lt ha) (by omega) 8 (by omega)
theorem climb_stop {xs : List Int} {a : Nat} (hk : kingN xs a = true) : climbF xs 9 a = a := by simp [climbF, hk]
noncomputable def climbI (s : Int) (xs : List Int) (a : Int) : Int := if (tourB s xs && inB a 0 (s - 1)) = true then (climbF xs 9 a.toNat : Int) else -1
set_option maxHeartbeats 1000000 in
theorem implClimb (s : Int) (sl : Value) (xs : List Int) (a : Int) (w : World) (h : Rd w sl xs) :
    Calls Try.prog 29 #[.agg #[.int .i64 s, sl], .int .i64 a] w fun e w' => e = .returned (.int .i64 (climbI s xs a)) ∧ Below w.heap.size w w' := by
  have HR := Lib.hid h
  obtain ⟨A, c, rfl, -, -, -⟩ := h
  rcases q0 : tourB s xs with _ | _
  case false =>
    go_enter Try.func29, Try.ntmps29
    go_wp2_with fail
    have b0 := below_alloc1 w (.cells #[.int .i64 s, .slice A xs.length c] 25)
    have x0 := TBox.new w s (.slice A xs.length c) 25
    generalize w.alloc (.cells #[.int .i64 s, .slice A xs.length c] 25) = w0 at *
    have HX0 := Lib.hid x0
    have HB0 := Lib.hid b0
    clear x0 b0
    have y0_0 := HX0.out.1
    have y1_0 := HX0.out.2
    go_wp2_with fail
    refine (implTourOk s _ xs _ (HR.out.below HB0.out)).mono ?_
    rintro e w1 ⟨rfl, hb⟩
    have HX1 := Lib.hid (HX0.out.below hb)
    have HB1 := Lib.hid (Below.then HB0.out hb)
    clear hb HX0 HB0 y0_0 y1_0
    have y0_1 := HX1.out.1
    have y1_1 := HX1.out.2
    rw [q0]
    go_wp2
    go_ret
    exact ⟨ret_int (by simp [climbI, *]), HB1.out⟩
  have hp := tourB_true.1 q0
  have hs := hp.1
  have hl := hp.2.1
  rcases q1 : inB a 0 (s - 1) with _ | _
  case false =>
    go_enter Try.func29, Try.ntmps29
    go_wp2_with fail
    have b0 := below_alloc1 w (.cells #[.int .i64 s, .slice A xs.length c] 25)
    have x0 := TBox.new w s (.slice A xs.length c) 25
    generalize w.alloc (.cells #[.int .i64 s, .slice A xs.length c] 25) = w0 at *
    have HX0 := Lib.hid x0
    have HB0 := Lib.hid b0
    clear x0 b0
    have y0_0 := HX0.out.1
    have y1_0 := HX0.out.2
    go_wp2_with fail
    refine (implTourOk s _ xs _ (HR.out.below HB0.out)).mono ?_
    rintro e w1 ⟨rfl, hb⟩
    have HX1 := Lib.hid (HX0.out.below hb)
    have HB1 := Lib.hid (Below.then HB0.out hb)
    clear hb HX0 HB0 y0_0 y1_0
    have y0_1 := HX1.out.1
    have y1_1 := HX1.out.2
    rw [q0]
    go_wp2_with fail
    refine (has_any s (.slice A xs.length c) a _ (by omega)).mono ?_
    rintro e w2 ⟨rfl, hb⟩
    have HX2 := Lib.hid (HX1.out.below hb)
    have HB2 := Lib.hid (Below.then HB1.out hb)
    clear hb HX1 HB1 y0_1 y1_1
    have y0_2 := HX2.out.1
    have y1_2 := HX2.out.2
    rw [q1]
    go_wp2
    go_ret
    exact ⟨ret_int (by simp [climbI, *]), HB2.out⟩
  have ha := inB_true.1 q1
  go_enter Try.func29, Try.ntmps29
  go_wp2_with fail
  have b0 := below_alloc1 w (.cells #[.int .i64 s, .slice A xs.length c] 25)
  have x0 := TBox.new w s (.slice A xs.length c) 25
  generalize w.alloc (.cells #[.int .i64 s, .slice A xs.length c] 25) = w0 at *
  have HX0 := Lib.hid x0
  have HB0 := Lib.hid b0
  clear x0 b0
  have y0_0 := HX0.out.1
  have y1_0 := HX0.out.2
  go_wp2_with fail
  refine (implTourOk s _ xs _ (HR.out.below HB0.out)).mono ?_
  rintro e w1 ⟨rfl, hb⟩
  have HX1 := Lib.hid (HX0.out.below hb)
  have HB1 := Lib.hid (Below.then HB0.out hb)
  clear hb HX0 HB0 y0_0 y1_0
  have y0_1 := HX1.out.1
  have y1_1 := HX1.out.2
  rw [q0]
  go_wp2_with fail
  refine (has_any s (.slice A xs.length c) a _ (by omega)).mono ?_
  rintro e w2 ⟨rfl, hb⟩
  have HX2 := Lib.hid (HX1.out.below hb)
  have HB2 := Lib.hid (Below.then HB1.out hb)
  clear hb HX1 HB1 y0_1 y1_1
  have y0_2 := HX2.out.1
  have y1_2 := HX2.out.2
  rw [q1]
  have hF : Hid (climbI s xs a = climbF xs 9 a.toNat) := by unfold Hid; simp [climbI, q0, q1]
  obtain ⟨n, rfl⟩ := Int.eq_ofNat_of_zero_le ha.1
  rw [show ((n : Int)).toNat = n from rfl] at hF
  go_wp2
  go_loopw [1] (fun i wr => ∃ k : Nat, k < xs.length ∧ i = .int .i64 k ∧ Hid (climbF xs 9 k = climbF xs 9 n) ∧ Below w2.heap.size w2 wr) (fun i _ => 8 - popN 8 (winsN xs (intOf i).toNat))
  case atStart => exact ⟨n, by omega, rfl, rfl, Below.refl _ _⟩
  case round =>
    obtain ⟨k, hk, rfl, HC, hb⟩ := hrel
    have HXr := Lib.hid (HX2.out.below hb)
    have y0 := HXr.out.1
    have y1 := HXr.out.2
    have HBr := Lib.hid hb
    clear hb
    rcases q : kingN xs k with _ | _
    · go_wp2_with fail
      refine (isKing_any s _ xs k _ (HR.out.below (Below.then HB2.out HBr.out)) hp hk).mono ?_
      rintro e w3 ⟨rfl, hb⟩
      have HXs := Lib.hid (HXr.out.below hb)
      have HBs := Lib.hid (Below.then HBr.out hb)
      clear hb y0 y1 HXr HBr
      have y0 := HXs.out.1
      have y1 := HXs.out.2
      rw [q]
      go_wp2_with fail
      refine (kingStep_any s _ xs k _ (HR.out.below (Below.then HB2.out HBs.out)) hp hk).mono ?_
      rintro e w4 ⟨rfl, hb⟩
      have HBt := Lib.hid (Below.then HBs.out hb)
      have hu := step_up hp hk q
      have hv := popN_le 8 (winsN xs (kstepN xs k))
      clear hb y0 y1 HXs HBs
      go_wp2
      go_roundw
      case rel => exact ⟨kstepN xs k, kstep_lt hk, rfl, by unfold Hid; rw [climb_step hp hk q]; exact HC.out, HBt.out⟩
      case measure => simp [intOf]; omega
    · go_wp2_with fail
      refine (isKing_any s _ xs k _ (HR.out.below (Below.then HB2.out HBr.out)) hp hk).mono ?_
      rintro e w3 ⟨rfl, hb⟩
      have HBs := Lib.hid (Below.then HBr.out hb)
      clear hb y0 y1 HXr HBr
      rw [q]
      go_wp2
      go_ret
      exact ⟨ret_int (by rw [hF.out, ← HC.out, climb_stop q]), Below.then HB2.out HBs.out⟩
end Go.Proofs.Ytcmpioalnpmpmaa

namespace Go.Proofs.Ytcmpioalnpmpmaa
open Go.RowKit Go.Sort

/-- a player's score -/
def scN (xs : List Int) (b : Nat) : Int := (popN 8 (winsN xs b) : Nat)
/-- the defeats against the first t who beat a -/
def lsT (xs : List Int) (a t : Nat) : Int := (((loseN xs a xs.length).take t).map fun b => (xs.length : Int) - 1 - scN xs b).sum
def dsAt (xs : List Int) (a : Nat) : Int := pwAt xs (pwL xs 1) a - lsT xs a (loseN xs a xs.length).length
def dsL (xs : List Int) : List Int := (List.range xs.length).map (dsAt xs)
noncomputable def dsR (s : Int) (xs : List Int) : List Int := if tourB s xs = true then dsL xs else []
theorem dsR_len (s : Int) (xs : List Int) : (dsR s xs).length ≤ 8 := by
  unfold dsR
  split
  · rename_i h
    have := (tourB_true.1 h).1
    have := (tourB_true.1 h).2.1
    simp [dsL]; omega
  · simp
theorem scN_bd (xs : List Int) (b : Nat) : 0 ≤ scN xs b ∧ scN xs b ≤ 8 := by
  have := popN_le 8 (winsN xs b)
  unfold scN; omega
theorem loseN_len (xs : List Int) (a k : Nat) : (loseN xs a k).length ≤ k := by
  unfold loseN
  refine Nat.le_trans (List.length_filter_le _ _) ?_
  rw [List.length_range]; exact Nat.le_refl _
theorem sum_bd2 {l : List Nat} {F : Nat → Int} {B : Int} (h : ∀ b ∈ l, -B ≤ F b ∧ F b ≤ B) : -(B * l.length) ≤ (l.map F).sum ∧ (l.map F).sum ≤ B * l.length := by
  induction l with
  | nil => simp
  | cons b l ih =>
    have ih := ih fun c hc => h c (by simp [hc])
    have hb := h b (by simp)
    have : B * ((b :: l).length : Int) = B * (l.length : Int) + B := by rw [List.length_cons, Int.natCast_add, Int.mul_add]; simp
    rw [List.map_cons, List.sum_cons]
    omega
theorem lsT_bd {xs : List Int} (h8 : xs.length ≤ 8) (a t : Nat) : -128 ≤ lsT xs a t ∧ lsT xs a t ≤ 128 := by
  have := sum_bd2 (l := (loseN xs a xs.length).take t) (F := fun b => (xs.length : Int) - 1 - scN xs b) (B := 16) (fun b _ => by have := scN_bd xs b; omega)
  have h1 : ((loseN xs a xs.length).take t).length ≤ 8 := by rw [List.length_take]; have := loseN_len xs a xs.length; omega
  unfold lsT
  omega
theorem lsT_succ {xs : List Int} {a t : Nat} (h : t < (loseN xs a xs.length).length) : lsT xs a (t + 1) = lsT xs a t + ((xs.length : Int) - 1 - scN xs ((loseN xs a xs.length).getD t 0)) := by
  unfold lsT
  rw [take_snocN h, List.map_append, List.sum_append, getD_nat h]
  simp
theorem lsT_zero (xs : List Int) (a : Nat) : lsT xs a 0 = 0 := by simp [lsT]
theorem pw1_at {s : Int} {xs : List Int} (hp : tourP s xs) {b : Nat} (hb : b < xs.length) : (pwL xs 1).getD b 0 = scN xs b := by
  rw [show pwL xs 1 = pwStep xs (pwL xs 0) from rfl, pwStep_at hb]
  unfold pwAt pwT scN
  rw [List.take_length, pop_mem (tour_wins hp hb).2.2]
  have : ∀ c ∈ memN (winsN xs b) 8, (pwL xs 0).getD c 0 = 1 := fun c hc => by
    have := wins_mem hp hb c hc
    simp [pwL, this]
  rw [List.map_congr_left this]
  generalize memN (winsN xs b) 8 = l
  clear this
  induction l with
  | nil => rfl
  | cons c l ih => rw [List.map_cons, List.sum_cons, ih, List.length_cons]; omega
/-- the row that grows: the power scores, what is lost taken off below a, the first t at a -/
def dsRow (xs P N : List Int) (n a t : Nat) : Prop := ∀ i, i < n → N.getD i 0 = if i < a then P.getD i 0 - lsT xs i (loseN xs i xs.length).length else if i = a then P.getD a 0 - lsT xs a t else P.getD i 0
theorem dsRow_start {xs P : List Int} {n : Nat} : dsRow xs P P n 0 0 := fun i _ => by
  by_cases h : i = 0
  · subst h; simp [lsT_zero]
  · simp [h]
theorem dsRow_next {xs P N : List Int} {n a : Nat} (h : dsRow xs P N n a (loseN xs a xs.length).length) : dsRow xs P N n (a + 1) 0 := fun i hi => by
  rw [h i hi, lsT_zero]
  by_cases h1 : i < a
  · rw [if_pos h1, if_pos (by omega)]
  · rw [if_neg h1]
    by_cases h2 : i = a
    · subst h2; rw [if_pos rfl, if_pos (by omega)]
    · rw [if_neg h2, if_neg (by omega)]
      by_cases h3 : i = a + 1
      · subst h3; simp
      · rw [if_neg h3]
theorem dsRow_step {xs P N : List Int} {n a t : Nat} {v : Int} (hl : N.length = n) (h : dsRow xs P N n a t) (ha : a < n) (hv : P.getD a 0 - lsT xs a (t + 1) = v) : dsRow xs P (N.set a v) n a (t + 1) := fun i hi => by
  by_cases h2 : i = a
  · subst h2
    rw [getD_set_same _ (by omega), if_neg (by omega), if_pos rfl, hv]
  · rw [getD_set_other _ (Ne.symm h2), h i hi, if_neg h2, if_neg h2]
theorem dsRow_at {xs P N : List Int} {n a t : Nat} (h : dsRow xs P N n a t) (ha : a < n) : N.getD a 0 = P.getD a 0 - lsT xs a t := by
  rw [h a ha, if_neg (by omega), if_pos rfl]
theorem dsRow_end {xs N : List Int} {n : Nat} (hn : xs.length = n) (hl : N.length = n) (h : dsRow xs (pwL xs 2) N n n 0) : N = dsL xs :=
  list_ext0 hl (by simp [dsL, hn]) fun i hi => by
    rw [h i hi, if_pos hi, show pwL xs 2 = pwStep xs (pwL xs 1) from rfl, pwStep_at (by omega)]
    simp [dsL, dsAt, show i < xs.length by omega]
set_option maxHeartbeats 4000000 in
set_option maxRecDepth 100000 in
theorem implDefeat (s : Int) (sl : Value) (xs : List Int) (w : World) (h : Rd w sl xs) :
    Calls Try.prog 16 #[.agg #[.int .i64 s, sl]] w fun e w' => ∃ v', e = .returned v' ∧ Own w' w.heap.size v' (dsR s xs) ∧ Below w.heap.size w w' := by
  have HR := Lib.hid h
  obtain ⟨A, c, rfl, -, hmc, -⟩ := h
  unfold maxLen at hmc
  rcases q0 : tourB s xs with _ | _
  case false =>
    go_enter Try.func16, Try.ntmps16
    go_wp2_with fail
    have b0 := below_alloc1 w (.cells #[.int .i64 s, .slice A xs.length c] 25)
    have x0 := TBox.new w s (.slice A xs.length c) 25
    generalize w.alloc (.cells #[.int .i64 s, .slice A xs.length c] 25) = w0 at *
    have HX0 := Lib.hid x0
    have HB0 := Lib.hid b0
    clear x0 b0
    have y0_0 := HX0.out.1
    have y1_0 := HX0.out.2
    go_wp2_with fail
    refine (implTourOk s _ xs _ (HR.out.below HB0.out)).mono ?_
    rintro e w1 ⟨rfl, hb⟩
    have HX1 := Lib.hid (HX0.out.below hb)
    have HB1 := Lib.hid (Below.then HB0.out hb)
    clear hb HX0 HB0 y0_0 y1_0
    have y0_1 := HX1.out.1
    have y1_1 := HX1.out.2
    rw [q0]
    go_wp2
    go_ret
    exact ⟨_, rfl, by simp only [dsR, *]; exact Own.nil_ _ _, HB1.out⟩
  have hp := tourB_true.1 q0
  have hs := hp.1
  have hl := hp.2.1
  go_enter Try.func16, Try.ntmps16
  go_wp2_with fail
  have b0 := below_alloc1 w (.cells #[.int .i64 s, .slice A xs.length c] 25)
  have x0 := TBox.new w s (.slice A xs.length c) 25
  generalize w.alloc (.cells #[.int .i64 s, .slice A xs.length c] 25) = w0 at *
  have HX0 := Lib.hid x0
  have HB0 := Lib.hid b0
  clear x0 b0
  have y0_0 := HX0.out.1
  have y1_0 := HX0.out.2
  go_wp2_with fail
  refine (implTourOk s _ xs _ (HR.out.below HB0.out)).mono ?_
  rintro e w1 ⟨rfl, hb⟩
  have HX1 := Lib.hid (HX0.out.below hb)
  have HB1 := Lib.hid (Below.then HB0.out hb)
  clear hb HX0 HB0 y0_0 y1_0
  have y0_1 := HX1.out.1
  have y1_1 := HX1.out.2
  rw [q0]
  have hF : Hid (dsR s xs = dsL xs) := by unfold Hid; simp [dsR, q0]
  have hPW : Hid (pwR s xs 2 = pwL xs 2) := by unfold Hid; simp [pwR, q0, inB]
  have HT := Lib.hid hp
  have HPl := pwL_len xs 2
  have HPB := Lib.hid (pwL_bd xs 2)
  have hn8 : xs.length ≤ 8 := by omega
  go_wp2_with fail
  refine (implPower s _ xs 2 _ (HR.out.below HB1.out)).mono ?_
  rintro e w3 ⟨v3, rfl, ho3, hb3⟩
  rw [hPW.out] at ho3
  have HSTART : Hid (dsRow xs (pwL xs 2) (pwL xs 2) xs.length 0 0) := dsRow_start
  generalize hPP : pwL xs 2 = P at *
  have HP2 := Lib.hid hPP
  obtain ⟨gl, cl, rfl, hgl, hcl, hnl, -, -⟩ := ho3.at_ HPl (by omega)
  have hgl3 := (ho3.lt gl rfl).2
  unfold maxLen at hcl
  have hsz1 := HB1.out.size
  have hwg := World.block_lt_of_cell? w1 _ HX1.out.1
  have HX3 := Lib.hid (HX1.out.below hb3)
  have HO3 := Lib.hid ho3
  have HB3 := Lib.hid hb3
  obtain ⟨g, off, c', e, -, hg, hx⟩ := tour_cells HR.out hp
  injection e with e1 _ e2
  subst e1 e2
  have HLL := Lib.hid (fun (a : Nat) (ha : a < xs.length) => loss_list hp ha)
  have HLT := Lib.hid (fun (a : Nat) (ha : a < xs.length) => (show lossN xs a < 2 ^ xs.length from less_lt (less_full_lt' _ _)))
  have HLS := Lib.hid (fun (a t : Nat) => lsT_bd (xs := xs) hn8 a t)
  clear hx
  generalize hn : xs.length = n at *
  have HN := Lib.hid hn
  clear hn hp q0 ho3 hb3 y0_1 y1_1 hPP
  obtain rfl : s = n := by omega
  go_wp2
  go_loopw [14] (fun i wr => ∃ (a : Nat) (N : List Int), a ≤ n ∧ i = .int .i64 a ∧ N.length = n ∧ Own wr w1.heap.size (.slice (some ⟨gl, 0, none⟩) n cl) N ∧ Hid (dsRow xs P N n a 0) ∧ Below w1.heap.size w1 wr) (fun i _ => n - (intOf i).toNat)
  case atStart => exact ⟨0, P, by omega, rfl, HPl, HO3.out, HSTART.out, HB3.out⟩
  case round =>
    obtain ⟨wa, rfl⟩ : ∃ x, x = wr := ⟨_, rfl⟩
    obtain ⟨a, N, ha, rfl, hNl, hown, HP, hb⟩ := hrel
    have HOa := Lib.hid hown
    have HBa := Lib.hid hb
    have HXa := Lib.hid (HX1.out.below hb)
    clear hown hb
    have y0_0 := HXa.out.1
    have y1_0 := HXa.out.2
    by_cases hlta : a < n
    · have hlose := loseN_len xs a n
      have hls := Lib.hid (fun (t : Nat) (ht : t < (loseN xs a xs.length).length) => lsT_succ ht)
      rw [HN.out] at hls
      have hll := HLL.out a hlta
      go_wp2_with fail
      refine (losses_any n (.slice (some ⟨g, off, none⟩) n c) xs a _ (HR.out.below (Below.then HB1.out HBa.out)) HT.out (by rw [HN.out]; exact hlta)).mono ?_
      rintro e w5 ⟨rfl, hb5⟩
      have HO5 := Lib.hid (HOa.out.below hb5)
      have HB5 := Lib.hid (Below.then HBa.out hb5)
      have hsa := HBa.out.size
      have hg5 := HOa.out.lt gl rfl
      have hs5 := hb5.size
      clear hb5 y0_0 y1_0
      go_wp2_with fail
      refine (membersOf_any (lossN xs a) n _ (HLT.out a hlta) (by omega)).mono ?_
      rintro e w6 ⟨v6, rfl, ho6, hb6⟩
      obtain ⟨A6, d6, rfl, hd1, hd2, hl6⟩ := memL_cells ho6
      unfold maxLen at hd1
      have HO6 := Lib.hid (HO5.out.below hb6)
      have HB6 := Lib.hid (Below.then HB5.out hb6)
      rw [hll] at hd2 ho6 ⊢
      have HO66 := Lib.hid ho6
      have HMEM : Hid (∀ b ∈ loseN xs a n, b < n) := fun b hb => (mem_loseN.1 hb).1
      clear ho6 hb6 hl6 HOa HBa
      have HLL2 := Lib.hid hll
      clear hll
      generalize hLL : loseN xs a n = L at *
      generalize hLn : L.length = q at *
      have HLN := Lib.hid hLn
      clear hLn
      go_wp2
      go_loopw [22] (fun i w7 => ∃ (t : Nat) (M : List Int), t ≤ q ∧ i = .int .i64 t ∧ M.length = n ∧ Own w7 w1.heap.size (.slice (some ⟨gl, 0, none⟩) n cl) M ∧ Hid (dsRow xs P M n a t) ∧ Own w7 w5.heap.size (.slice A6 q d6) (memL (lossN xs a) n) ∧ Below w1.heap.size w1 w7) (fun i _ => q - (intOf i).toNat)
      case atStart => exact ⟨0, N, by omega, rfl, hNl, HO6.out, HP, HO66.out, HB6.out⟩
      case round =>
        obtain ⟨t, M, ht, rfl, hMl, hown, HP7, ho7, hb⟩ := hrel
        by_cases hltt : t < q
        · obtain ⟨g7, off7, rfl, hg7, hz⟩ := memL_cells' ho7 (by rw [HLL2.out]; exact HLN.out) (by omega)
          have hzt := hz t hltt
          rw [HLL2.out] at hzt
          have hbn := HMEM.out (L.getD t 0) (by rw [getD_nat (by rw [HLN.out]; exact hltt)]; exact List.getElem_mem _)
          obtain ⟨hx7, hf7⟩ := hown.at1 hMl (by omega)
          have za := hx7 a hlta
          rw [dsRow_at HP7.out hlta] at za
          have hbd := HLS.out a t
          have hPs := Lib.hid (hls.out t hltt)
          have hsc := scN_bd xs (L.getD t 0)
          have hpb := HPB.out a
          have HO7 := Lib.hid hown
          have HM7 := Lib.hid ho7
          have HB7 := Lib.hid hb
          have HX7 := Lib.hid (HX1.out.below hb)
          have k1 := quiet_below (w := wr) (fun W hW => score_any n (.slice (some ⟨g, off, none⟩) n c) xs (L.getD t 0) W (HR.out.below (Below.then (Below.then HB1.out hb) hW)) HT.out (by rw [HN.out]; exact hbn))
          have hSC : Hid (((popN 8 (winsN xs (L.getD t 0)) : Nat) : Int) = scN xs (L.getD t 0)) := rfl
          rw [hSC.out] at k1
          clear hz hx7 hf7 hown ho7 hb
          have y0 := HX7.out.1
          have y1 := HX7.out.2
          generalize L.getD t 0 = b at *
          generalize lsT xs a t = x at *
          generalize hpg : P.getD a 0 = p at *
          have HPG := Lib.hid hpg
          clear hpg
          generalize scN xs b = y at *
          go_wp2_with fail
          have c0 := cell_regrown y0
          have c1 := cell_regrown y1
          have c2 := cell_regrown za
          clear hzt za y0 y1
          refine wp_region_below_tail 13 (by kernel_rfl) (by kernel_rfl) ?_
          simp only [List.take_succ_cons, List.take_zero, List.drop_succ_cons, List.drop_zero]
          repeat (go_big_quiet_step (first | (with_reducible exact k1 _ _)))
          refine wpQuiet_nil ?_
          intro wq hbq0
          have hbq := Lib.hid hbq0
          clear hbq0
          clear c0 c1 c2 k1
          have O2 := HO7.out.below hbq.out
          obtain ⟨hx2, hf2⟩ := O2.at1 hMl (by omega)
          have za := hx2 a hlta
          have fa := hf2 a
          have HO3 := Lib.hid (O2.set_ hMl a (p - x - (n - 1 - y))).1
          have HM3 := Lib.hid ((HM7.out.below hbq.out).kept (setCell_grown _ ⟨gl, a, none⟩ (.int .i64 (p - x - (n - 1 - y)))) (own_ne (fun k hk => (HM7.out.lt k hk).1) (show gl < w5.heap.size by omega)))
          have hsz7 := HB7.out.size
          have HB8 := Lib.hid ((Below.then HB7.out hbq.out).setCell (p := ⟨gl, a, none⟩) hgl (.int .i64 (p - x - (n - 1 - y))))
          clear hx2 hf2 O2 HO7 HM7 HB7
          go_wp2
          go_roundw
          case rel => exact ⟨t + 1, M.set a (p - x - (n - 1 - y)), by omega, by go_num, by rw [List.length_set]; exact hMl, HO3.out, dsRow_step hMl HP7.out hlta (by rw [hPs.out, HPG.out]; omega), HM3.out, HB8.out⟩
          case measure => simp [intOf]; omega
        · obtain rfl : t = q := by omega
          have HP8 : Hid (dsRow xs P M n (a + 1) 0) := dsRow_next (by rw [HN.out, hLL, HLN.out]; exact HP7.out)
          have HOM := Lib.hid hown
          have HBM := Lib.hid hb
          clear hown hb
          go_wp2
          go_roundw
          case rel => exact ⟨a + 1, M, by omega, by go_num, hMl, HOM.out, HP8.out, HBM.out⟩
          case measure => simp [intOf]; omega
    · obtain rfl : n = a := by omega
      have HE := Lib.hid (dsRow_end HN.out hNl (by rw [HP2.out]; exact HP.out))
      go_wp2
      go_ret
      exact ⟨_, rfl, by rw [hF.out, ← HE.out]; exact HOa.out.mono hsz1, Below.then HB1.out HBa.out⟩
def scL (xs : List Int) (k : Nat) : List Int := (List.range k).map (scN xs)
theorem scL_succ (xs : List Int) (k : Nat) : scL xs (k + 1) = scL xs k ++ [scN xs k] := by unfold scL; rw [List.range_succ, List.map_append]; rfl
theorem scL_len (xs : List Int) (k : Nat) : (scL xs k).length = k := by simp [scL]
theorem scL_at (xs : List Int) {k b : Nat} (h : b < k) : (scL xs k).getD b 0 = scN xs b := by simp [scL, h]
end Go.Proofs.Ytcmpioalnpmpmaa

namespace Go.Proofs.Ytcmpioalnpmpmaa
open Go.RowKit Go.Sort
set_option maxRecDepth 100000

/-- from the right: how far x goes -/
def posR (bef : Int → Int → Bool) (x : Int) (S : List Int) : Nat → Nat
  | 0 => 0
  | k + 1 => if bef x (S.getD k 0) = true then posR bef x S k else k + 1
def insR (bef : Int → Int → Bool) (S : List Int) (x : Int) : List Int := S.take (posR bef x S S.length) ++ x :: S.drop (posR bef x S S.length)
def sortR (bef : Int → Int → Bool) (L : List Int) : List Int := L.foldl (insR bef) []
theorem posR_le (bef : Int → Int → Bool) (x : Int) (S : List Int) (k : Nat) : posR bef x S k ≤ k := by
  induction k with
  | zero => exact Nat.le_refl _
  | succ k ih =>
    simp only [posR]
    split <;> omega
theorem posR_go {bef : Int → Int → Bool} {x : Int} {S : List Int} {k : Nat} (h : bef x (S.getD k 0) = true) : posR bef x S (k + 1) = posR bef x S k := by simp only [posR, h, if_true]
theorem posR_stop {bef : Int → Int → Bool} {x : Int} {S : List Int} {k : Nat} (h : bef x (S.getD k 0) = false) : posR bef x S (k + 1) = k + 1 := by simp only [posR, h]; rfl
theorem insR_len (bef : Int → Int → Bool) (S : List Int) (x : Int) : (insR bef S x).length = S.length + 1 := by
  have := posR_le bef x S S.length
  unfold insR
  simp; omega
theorem sortR_succ (bef : Int → Int → Bool) (L : List Int) {i : Nat} (h : i < L.length) : sortR bef (L.take (i + 1)) = insR bef (sortR bef (L.take i)) (L.getD i 0) := by
  unfold sortR
  rw [List.take_succ_eq_append_getElem h, List.foldl_append, show L.getD i 0 = L[i] by simp [h]]
  rfl
theorem sortR_len (bef : Int → Int → Bool) (L : List Int) {i : Nat} (h : i ≤ L.length) : (sortR bef (L.take i)).length = i := by
  induction i with
  | zero => rfl
  | succ i ih => rw [sortR_succ bef L (by omega), insR_len, ih (by omega)]
/-- the row while x is on its way: it stands at j -/
def midR (S : List Int) (x : Int) (rest : List Int) (j : Nat) : List Int := S.take j ++ x :: S.drop j ++ rest
theorem midR_len (S : List Int) (x : Int) (rest : List Int) (j : Nat) (h : j ≤ S.length) : (midR S x rest j).length = S.length + 1 + rest.length := by
  unfold midR; simp; omega
theorem midR_at (S : List Int) (x : Int) (rest : List Int) (j : Nat) (h : j ≤ S.length) : (midR S x rest j).getD j 0 = x := by
  unfold midR
  have hl : (S.take j).length = j := by rw [List.length_take]; omega
  rw [List.append_assoc, List.getD_eq_getElem?_getD, List.getElem?_append_right (by omega), hl, Nat.sub_self]
  rfl
theorem midR_prev (S : List Int) (x : Int) (rest : List Int) (j : Nat) (h : j + 1 ≤ S.length) : (midR S x rest (j + 1)).getD j 0 = S.getD j 0 := by
  unfold midR
  have hl : (S.take (j + 1)).length = j + 1 := by rw [List.length_take]; omega
  rw [List.append_assoc, List.getD_eq_getElem?_getD, List.getElem?_append_left (by omega), List.getElem?_take, if_pos (by omega), ← List.getD_eq_getElem?_getD]
theorem midR_swap (S : List Int) (x : Int) (rest : List Int) (j : Nat) (h : j + 1 ≤ S.length) : ((midR S x rest (j + 1)).set (j + 1) (S.getD j 0)).set j x = midR S x rest j := by
  have e1 : S.take (j + 1) = S.take j ++ [S.getD j 0] := by
    rw [List.take_succ_eq_append_getElem (by omega), show S.getD j 0 = S[j] by simp [show j < S.length by omega]]
  have e2 : S.drop j = S.getD j 0 :: S.drop (j + 1) := by
    rw [List.drop_eq_getElem_cons (by omega : j < S.length), show S.getD j 0 = S[j] by simp [show j < S.length by omega]]
  have hlj : (S.take j).length = j := by rw [List.length_take]; omega
  unfold midR
  rw [e1, e2]
  generalize S.getD j 0 = y
  generalize S.take j = P at *
  simp only [List.append_assoc, List.cons_append, List.nil_append]
  rw [List.set_append_right _ _ (by omega), hlj, show j + 1 - j = 1 by omega, List.set_cons_succ, List.set_cons_zero, List.set_append_right _ _ (by omega), hlj, Nat.sub_self, List.set_cons_zero]
theorem midR_start (S : List Int) (x : Int) (rest : List Int) : midR S x rest S.length = S ++ x :: rest := by
  unfold midR; simp
theorem midR_end (bef : Int → Int → Bool) (S : List Int) (x : Int) (rest : List Int) (j : Nat) (h : posR bef x S S.length = j) : midR S x rest j = insR bef S x ++ rest := by
  unfold midR insR; rw [h]
theorem mem_insR {bef : Int → Int → Bool} {S : List Int} {x y : Int} (h : y ∈ insR bef S x) : y = x ∨ y ∈ S := by
  unfold insR at h
  rw [List.mem_append, List.mem_cons] at h
  rcases h with h | h | h
  · exact .inr (List.mem_of_mem_take h)
  · exact .inl h
  · exact .inr (List.mem_of_mem_drop h)
theorem mem_sortR {bef : Int → Int → Bool} {L : List Int} {y : Int} {i : Nat} (hi : i ≤ L.length) (h : y ∈ sortR bef (L.take i)) : y ∈ L := by
  induction i with
  | zero => simp [sortR] at h
  | succ i ih =>
    rw [sortR_succ bef L (by omega)] at h
    rcases mem_insR h with rfl | h
    · rw [show L.getD i 0 = L[i] by simp [show i < L.length by omega]]; exact List.getElem_mem _
    · exact ih (by omega) h
theorem drop_eq' {L : List Int} {k : Nat} (h : k < L.length) : L.drop k = L.getD k 0 :: L.drop (k + 1) := by
  rw [List.drop_eq_getElem_cons h, show L.getD k 0 = L[k] by simp [h]]
theorem getD_memI {L : List Int} {i : Nat} (h : i < L.length) : L.getD i 0 ∈ L := by
  rw [show L.getD i 0 = L[i] by simp [h]]; exact List.getElem_mem h
theorem sortR_one (bef : Int → Int → Bool) (L : List Int) (h : 1 ≤ L.length) : sortR bef (L.take 1) ++ L.drop 1 = L := by
  cases L with
  | nil => simp at h
  | cons x L => simp [sortR, insR, posR]
set_option maxHeartbeats 4000000 in
theorem insSort_any (F : FuncId) (caps : Array Value) (hE : Enters F) (cf : Int → Int → Int) (L : List Int) (n base g c : Nat) (w : World) (hl : L.length = n) (hn : n ≤ 40) (hc : c ≤ 4611686018427387904) (hnc : n ≤ c) (h1 : 1 ≤ n) (hbase : base ≤ w.heap.size)
    (h : Own w base (.slice (some ⟨g, 0, none⟩) n c) L)
    (hf : ∀ x ∈ L, ∀ y ∈ L, ∀ w', Below base w w' → Calls Try.prog F (#[.int .i64 x, .int .i64 y] ++ caps) w' fun e w'' => e = .returned (.int .i64 (cf x y)) ∧ Below w'.heap.size w' w'') :
    Calls Try.prog 154 #[.slice (some ⟨g, 0, none⟩) n c, .int .i64 0, .int .i64 n, .func (.func F) #[] caps] w fun e w' => e = .returned (.tuple #[]) ∧ Own w' base (.slice (some ⟨g, 0, none⟩) n c) (sortR (fun x y => decide (cf x y < 0)) L) ∧ Below base w w' := by
  have HF := Lib.hid hf
  clear hf
  have hE' : ∀ (args : Array Value) (W : World), (callFunc F args).run Try.prog W = .ok (.enter F args) W := hE
  have hg := (h.lt g rfl)
  have HO0 := Lib.hid h
  have HL := Lib.hid hl
  clear h hl
  generalize hbef : (fun x y => decide (cf x y < 0)) = bef at *
  have HBEF : Hid (∀ x y, bef x y = decide (cf x y < 0)) := fun x y => by rw [← hbef]
  clear hbef
  go_enter Try.func154, Try.ntmps154
  go_wp2
  go_loopw [8] (fun i wr => ∃ k : Nat, 1 ≤ k ∧ k ≤ n ∧ i = .int .i64 k ∧ Own wr base (.slice (some ⟨g, 0, none⟩) n c) (sortR bef (L.take k) ++ L.drop k) ∧ Below base w wr) (fun i _ => n - (intOf i).toNat)
  case atStart => exact ⟨1, by omega, h1, by go_num, by rw [sortR_one bef L (by rw [HL.out]; exact h1)]; exact HO0.out, (Below.refl _ _).mono hbase⟩
  case round =>
    obtain ⟨wo, rfl⟩ : ∃ x, x = wr := ⟨_, rfl⟩
    obtain ⟨k, hk1, hk, rfl, ho, hb⟩ := hrel
    have HO := Lib.hid ho
    have HB := Lib.hid hb
    clear ho hb
    by_cases hlt : k < n
    · go_wp2
      go_loopw [9] (fun i wr => ∃ j : Nat, j ≤ k ∧ i = .int .i64 j ∧ Own wr base (.slice (some ⟨g, 0, none⟩) n c) (midR (sortR bef (L.take k)) (L.getD k 0) (L.drop (k + 1)) j) ∧ Hid (posR bef (L.getD k 0) (sortR bef (L.take k)) k = posR bef (L.getD k 0) (sortR bef (L.take k)) j) ∧ Below base w wr) (fun i _ => (intOf i).toNat)
      case atStart => exact ⟨k, by omega, rfl, by
        have e := midR_start (sortR bef (L.take k)) (L.getD k 0) (L.drop (k + 1))
        rw [sortR_len bef L (by rw [HL.out]; omega)] at e
        rw [e, ← drop_eq' (by rw [HL.out]; exact hlt)]; exact HO.out, rfl, HB.out⟩
      case round =>
        obtain ⟨j, hj, rfl, ho, HP, hb⟩ := hrel
        have HOj := Lib.hid ho
        have HBj := Lib.hid hb
        have hSl := sortR_len bef L (i := k) (by rw [HL.out]; omega)
        have HMA := Lib.hid (midR_at (sortR bef (L.take k)) (L.getD k 0) (L.drop (k + 1)) j (by omega))
        have HML := Lib.hid (midR_len (sortR bef (L.take k)) (L.getD k 0) (L.drop (k + 1)) j (by omega))
        clear ho hb
        rcases Nat.eq_zero_or_pos j with rfl | hj0
        · go_wp2_with fail
          refine wp_region_below (by kernel_rfl) (by kernel_rfl) ?_
          repeat (go_big_quiet_step (first | (with_reducible fail)))
          refine wpQuiet_nil ?_
          intro wq hbq0
          have HBQ := Lib.hid hbq0
          clear hbq0
          have hpos : posR bef (L.getD k 0) (sortR bef (L.take k)) (sortR bef (L.take k)).length = 0 := by rw [hSl]; exact HP.out
          have HFIN := Lib.hid (midR_end bef (sortR bef (L.take k)) (L.getD k 0) (L.drop (k + 1)) 0 hpos)
          have HSU := Lib.hid (sortR_succ bef L (show k < L.length by rw [HL.out]; exact hlt))
          clear hpos
          go_wp2
          go_roundw
          case rel => exact ⟨k + 1, by omega, by omega, by go_num, by rw [HSU.out, ← HFIN.out]; exact HOj.out.below HBQ.out, HBj.out.trans (HBQ.out.mono (Nat.le_trans hbase HBj.out.size))⟩
          case measure => simp [intOf]; omega
        · obtain ⟨j, rfl⟩ : ∃ i, j = i + 1 := ⟨j - 1, by omega⟩
          have hx : L.getD k 0 ∈ L := getD_memI (by rw [HL.out]; exact hlt)
          have hy : (sortR bef (L.take k)).getD j 0 ∈ L := mem_sortR (i := k) (by rw [HL.out]; omega) (getD_memI (by omega))
          have HPR := Lib.hid (midR_prev (sortR bef (L.take k)) (L.getD k 0) (L.drop (k + 1)) j (by omega))
          have HSW := Lib.hid (midR_swap (sortR bef (L.take k)) (L.getD k 0) (L.drop (k + 1)) j (by omega))
          have HGO := Lib.hid (fun h => posR_go (bef := bef) (x := L.getD k 0) (S := sortR bef (L.take k)) (k := j) h)
          have HST := Lib.hid (fun h => posR_stop (bef := bef) (x := L.getD k 0) (S := sortR bef (L.take k)) (k := j) h)
          have HEND := Lib.hid (fun h => midR_end bef (sortR bef (L.take k)) (L.getD k 0) (L.drop (k + 1)) (j + 1) h)
          have HSU := Lib.hid (sortR_succ bef L (show k < L.length by rw [HL.out]; exact hlt))
          have HBF := Lib.hid (HBEF.out (L.getD k 0) ((sortR bef (L.take k)).getD j 0))
          have hlr : (L.drop (k + 1)).length = n - (k + 1) := by rw [List.length_drop, HL.out]
          rw [hSl, hlr] at HML
          have hlM : (midR (sortR bef (L.take k)) (L.getD k 0) (L.drop (k + 1)) (j + 1)).length = n := by rw [HML.out]; omega
          obtain ⟨hxc, hfz⟩ := HOj.out.at1 hlM (by omega)
          have z1 := hxc (j + 1) (by omega)
          have z0 := hxc j (by omega)
          rw [HMA.out] at z1
          rw [HPR.out] at z0
          have k1 := quiet_below (w := wr) (fun W hW => HF.out _ hx _ hy W (HBj.out.trans (hW.mono (Nat.le_trans hbase HBj.out.size))))
          rw [hSl] at HEND
          clear hx hy hxc hfz hlr
          generalize hS : sortR bef (L.take k) = S at *
          generalize hX : L.getD k 0 = x at *
          generalize hR : L.drop (k + 1) = rest at *
          generalize hY : S.getD j 0 = y at *
          have hk1 := k1 0 #[]
          rcases hq : bef x y with _ | _
          · have hr : ¬ cf x y < 0 := by rw [HBF.out] at hq; exact of_decide_eq_false hq
            generalize cf x y = r at *
            go_wp2_with fail
            have c1 := cell_regrown z1
            have c0 := cell_regrown z0
            clear z0 z1
            refine wp_region_below (by kernel_rfl) (by kernel_rfl) ?_
            repeat (go_big_quiet_step (first | (with_reducible exact k1 _ _)))
            refine wpQuiet_nil ?_
            intro wq hbq0
            have HBQ := Lib.hid hbq0
            clear hbq0 c0 c1 k1 hk1
            have HFIN := Lib.hid (HEND.out (by rw [HP.out]; exact HST.out hq))
            go_wp2
            go_roundw
            case rel => exact ⟨k + 1, by omega, by omega, by go_num, by rw [HSU.out, hR, ← HFIN.out]; exact HOj.out.below HBQ.out, HBj.out.trans (HBQ.out.mono (Nat.le_trans hbase HBj.out.size))⟩
            case measure => simp [intOf]; omega
          · have hr : cf x y < 0 := by rw [HBF.out] at hq; exact of_decide_eq_true hq
            generalize cf x y = r at *
            go_wp2_with fail
            have c1 := cell_regrown z1
            have c0 := cell_regrown z0
            clear z0 z1
            refine wp_region_below (by kernel_rfl) (by kernel_rfl) ?_
            repeat (go_big_quiet_step (first | (with_reducible exact k1 _ _)))
            refine wpQuiet_nil ?_
            intro wq hbq0
            have HBQ := Lib.hid hbq0
            clear hbq0 c0 c1 k1 hk1
            have O2 := HOj.out.below HBQ.out
            have HB2 := Lib.hid (HBj.out.trans (HBQ.out.mono (Nat.le_trans hbase HBj.out.size)))
            obtain ⟨hxc, hfz⟩ := O2.at1 hlM (by omega)
            have z1 := hxc (j + 1) (by omega)
            have z0 := hxc j (by omega)
            rw [HMA.out] at z1
            rw [HPR.out] at z0
            have f1 := hfz (j + 1)
            have f0 := hfz j
            have O3 := (O2.set_ hlM (j + 1) y).1
            have hlM2 : ((midR S x rest (j + 1)).set (j + 1) y).length = n := by rw [List.length_set]; exact hlM
            have O4 := Lib.hid (O3.set_ hlM2 j x).1
            rw [HSW.out] at O4
            have HB4 := Lib.hid ((HB2.out.setCell (p := ⟨g, j + 1, none⟩) hg.1 (.int .i64 y)).setCell (p := ⟨g, j, none⟩) hg.1 (.int .i64 x))
            have HPN := HGO.out hq
            clear O2 O3 hxc hfz
            go_wp2_with fail
            have hwj : IntKind.i64.wrap ((j : Nat) : Int) = (j : Int) := by rw [IntWalk.i64_left]; exact wrap64_nat j (by omega)
            have hjn : j < n := by omega
            have hjn1 : j + 1 < n := by omega
            have hjn2 : (j : Int) + 1 < (n : Int) := by omega
            have hjn3 : (0 : Int) ≤ (j : Int) + 1 := by omega
            go_region_law (fail)
            all_goals
              have HO5 : Hid (Own ((wq.setCell ⟨g, j + 1, none⟩ (.int .i64 y)).setCell ⟨g, j, none⟩ (.int .i64 x)).drew base (.slice (some ⟨g, 0, none⟩) n c) (midR S x rest j)) := O4.out
              have HB5 : Hid (Below base w ((wq.setCell ⟨g, j + 1, none⟩ (.int .i64 y)).setCell ⟨g, j, none⟩ (.int .i64 x)).drew) := ⟨HB4.out.os, HB4.out.tape, HB4.out.output, HB4.out.size, HB4.out.block⟩
              have HPJ : Hid (posR bef x S k = posR bef x S j) := HP.out.trans HPN
              clear z1 z0 f1 f0 hwj hjn hjn1 hjn2 hjn3
              generalize ((wq.setCell ⟨g, j + 1, none⟩ (.int .i64 y)).setCell ⟨g, j, none⟩ (.int .i64 x)).drew = w9 at HO5 HB5 ⊢
              go_wp2
              go_roundw
              case rel => exact ⟨j, by omega, by go_num, HO5.out, HPJ.out, HB5.out⟩
              case measure => simp [intOf]
    · obtain rfl : n = k := by omega
      have e1 : L.take n = L := List.take_of_length_le (by rw [HL.out]; exact Nat.le_refl _)
      have e2 : L.drop n = [] := List.drop_eq_nil_of_le (by rw [HL.out]; exact Nat.le_refl _)
      rw [e1, e2, List.append_nil] at HO
      go_wp2
      go_end0
      exact ⟨rfl, HO.out, HB.out⟩
set_option maxHeartbeats 2000000 in
theorem stable_any (F : FuncId) (caps : Array Value) (hE : Enters F) (cf : Int → Int → Int) (L : List Int) (n base g c : Nat) (w : World) (hl : L.length = n) (hn : n < 20) (hc : c ≤ 4611686018427387904) (hnc : n ≤ c) (h1 : 1 ≤ n) (hbase : base ≤ w.heap.size)
    (h : Own w base (.slice (some ⟨g, 0, none⟩) n c) L)
    (hf : ∀ x ∈ L, ∀ y ∈ L, ∀ w', Below base w w' → Calls Try.prog F (#[.int .i64 x, .int .i64 y] ++ caps) w' fun e w'' => e = .returned (.int .i64 (cf x y)) ∧ Below w'.heap.size w' w'') :
    Calls Try.prog 135 #[.slice (some ⟨g, 0, none⟩) n c, .int .i64 n, .func (.func F) #[] caps] w fun e w' => e = .returned (.tuple #[]) ∧ Own w' base (.slice (some ⟨g, 0, none⟩) n c) (sortR (fun x y => decide (cf x y < 0)) L) ∧ Below base w w' := by
  have HI := Lib.hid (insSort_any F caps hE cf L n base g c w hl (by omega) hc hnc h1 hbase h hf)
  clear h hf
  go_enter Try.func135, Try.ntmps135
  go_wp2
  go_loopw [7, 8] (fun a b wr => a = .int .i64 0 ∧ b = .int .i64 20 ∧ wr = w) (fun _ _ _ => 0)
  case atStart => exact ⟨rfl, rfl, rfl⟩
  case round =>
    obtain ⟨rfl, rfl, rfl⟩ := hrel
    go_wp2_with fail
    refine HI.out.mono ?_
    rintro e w1 ⟨rfl, ho, hb⟩
    have HO := Lib.hid ho
    have HB := Lib.hid hb
    clear ho hb
    go_wp2
    go_loopw [6] (fun i wr => i = .int .i64 20 ∧ wr = w1) (fun _ _ => 0)
    case atStart => exact ⟨rfl, rfl⟩
    case round =>
      obtain ⟨rfl, rfl⟩ := hrel
      go_wp2
      go_end0
      exact ⟨rfl, HO.out, HB.out⟩
theorem sortStable_any (F : FuncId) (caps : Array Value) (hE : Enters F) (cf : Int → Int → Int) (L : List Int) (n base g c : Nat) (w : World) (hl : L.length = n) (hn : n < 20) (hc : c ≤ 4611686018427387904) (hnc : n ≤ c) (h1 : 1 ≤ n) (hbase : base ≤ w.heap.size)
    (h : Own w base (.slice (some ⟨g, 0, none⟩) n c) L)
    (hf : ∀ x ∈ L, ∀ y ∈ L, ∀ w', Below base w w' → Calls Try.prog F (#[.int .i64 x, .int .i64 y] ++ caps) w' fun e w'' => e = .returned (.int .i64 (cf x y)) ∧ Below w'.heap.size w' w'') :
    Calls Try.prog 81 #[.slice (some ⟨g, 0, none⟩) n c, .func (.func F) #[] caps] w fun e w' => e = .returned (.tuple #[]) ∧ Own w' base (.slice (some ⟨g, 0, none⟩) n c) (sortR (fun x y => decide (cf x y < 0)) L) ∧ Below base w w' := by
  have HI := Lib.hid (stable_any F caps hE cf L n base g c w hl hn hc hnc h1 hbase h hf)
  clear h hf
  go_enter Try.func81, Try.ntmps81
  go_wp2_with fail
  refine HI.out.mono ?_
  rintro e w1 ⟨rfl, ho, hb⟩
  have HO := Lib.hid ho
  have HB := Lib.hid hb
  clear ho hb
  go_wp2
  go_end0
  exact ⟨rfl, HO.out, HB.out⟩
end Go.Proofs.Ytcmpioalnpmpmaa

namespace Go.Proofs.Ytcmpioalnpmpmaa
open Go.RowKit Go.Sort
set_option maxRecDepth 100000

def idxL (n : Nat) : List Int := (List.range n).map fun (a : Nat) => (a : Int)
theorem idxL_len (n : Nat) : (idxL n).length = n := by simp [idxL]
theorem idxL_at {n a : Nat} (h : a < n) : (idxL n).getD a 0 = a := by simp [idxL, h]
theorem idxL_mem {n : Nat} {x : Int} (h : x ∈ idxL n) : ∃ a : Nat, a < n ∧ x = a := by
  unfold idxL at h
  rw [List.mem_map] at h
  obtain ⟨a, ha, e⟩ := h
  exact ⟨a, List.mem_range.1 ha, e.symm⟩
set_option maxHeartbeats 2000000 in
theorem indices_any (n : Nat) (hn : n ≤ 1000) (w : World) (h1 : 1 ≤ n) :
    Calls Try.prog 80 #[.int .i64 n] w fun e w' => e = .returned (.slice (some ⟨w.heap.size, 0, none⟩) n n) ∧ Own w' w.heap.size (.slice (some ⟨w.heap.size, 0, none⟩) n n) (idxL n) ∧ Below w.heap.size w w' := by
  obtain ⟨i0, hi, hz0, hz1, hz2⟩ := info_parts i64_info
  go_enter Try.func80, Try.ntmps80
  go_wp2_with (at_make; refine wpList_make_full _ rfl _ _ 23 rfl w.heap.size 3 i0 (.int .i64 0) 1 Try.underlying23 hi hz0 hz1 _ _ _ _ n rfl rfl rfl rfl (by rw [hz2]; omega) (by unfold maxLen; omega) (Nat.le_refl _) ?_; intro w1 hown hg1; have HB1 := Lib.hid ((Below.refl w.heap.size w).grown hg1 (Nat.le_refl _) (by simp)); have HOWN := Lib.hid hown; clear hown hg1)
  have HO1 : Hid (Own w1 w.heap.size (.slice (some ⟨w.heap.size, 0, none⟩) n n) (List.replicate n 0)) := by
    have ho := HOWN.out
    rw [ints_made'] at ho
    unfold Hid Own
    rw [List.length_replicate]
    exact ho
  clear HOWN
  go_loopw [9] (fun i wr => ∃ (k : Nat) (N : List Int), k ≤ n ∧ i = .int .i64 k ∧ N.length = n ∧ Own wr w.heap.size (.slice (some ⟨w.heap.size, 0, none⟩) n n) N ∧ Hid (∀ i, i < k → N.getD i 0 = (i : Int)) ∧ Below w.heap.size w wr) (fun i _ => n - (intOf i).toNat)
  case atStart => exact ⟨0, _, by omega, rfl, by simp, HO1.out, fun i hi => absurd hi (by omega), HB1.out⟩
  case round =>
    obtain ⟨k, N, hk, rfl, hNl, ho, HP, hb⟩ := hrel
    have HO := Lib.hid ho
    have HB := Lib.hid hb
    clear ho hb
    by_cases hlt : k < n
    · obtain ⟨hx, hf⟩ := HO.out.at1 hNl (by omega)
      have zk := hx k hlt
      have fk := hf k
      have HO3 := Lib.hid (HO.out.set_ hNl k (k : Int)).1
      have HB3 := Lib.hid (HB.out.setCell (p := ⟨w.heap.size, k, none⟩) (Nat.le_refl _) (.int .i64 k))
      clear hx hf
      go_wp2
      go_roundw
      case rel =>
        refine ⟨k + 1, N.set k k, by omega, by go_num, by simp [hNl], HO3.out, fun i hi => ?_, HB3.out⟩
        by_cases hik : i = k
        · subst hik; rw [getD_set_same _ (by omega)]
        · rw [getD_set_other _ (Ne.symm hik)]; exact HP.out i (by omega)
      case measure => simp [intOf]; omega
    · obtain rfl : n = k := by omega
      have HE : Hid (N = idxL n) := list_ext0 hNl (idxL_len n) fun i hi => by rw [HP.out i hi, idxL_at hi]
      go_wp2
      go_ret
      exact ⟨rfl, by rw [← HE.out]; exact HO.out, HB.out⟩
end Go.Proofs.Ytcmpioalnpmpmaa

namespace Go.Proofs.Ytcmpioalnpmpmaa
open Go.RowKit Go.Sort
set_option maxRecDepth 100000

theorem wp_appendN {ops : Array Oper} {rest : List Oper} {o : Oper} {a : Act} {Q : Exit → Act → World → Prop} (w : World) (hgd : o.guard = none) (s x : Operand)
    (ho : o.op = .call { callee := .builtin .append, args := #[s, x], argTypes := #[23, 23] })
    (base : Nat) (v : Value) (xs : List Int) (hs : a.eval s = v) (hown : Own w base v xs) (ad : Addr) (c : Nat) (ys : List Int) (hx : a.eval x = .slice (some ad) ys.length c)
    (hc : ∀ k, k < ys.length → w.cell? (ad.add k) = some (.int .i64 (ys.getD k 0)))
    (hlen : xs.length + ys.length ≤ 1099511627776) (hbase : base ≤ w.heap.size)
    (h : ∀ v' w', Own w' base v' (xs ++ ys) → w.grownBy w' v.ownBlock → wpList Try.prog ops Q rest (a.put o.dst v') w') :
    wpList Try.prog ops Q (o :: rest) a w := by
  obtain ⟨i0, hi, hz0, hz1, hz2⟩ := info_parts i64_info
  have hown' : w.ownsRow base 3 1 v xs.length (xs.map (Value.int .i64)) := hown
  refine wpList_append_own _ hgd s x 23 ho base 3 i0 (.int .i64 0) 1 8 Try.underlying23 hi hz0 hz1 hz2 rfl (by decide) v xs.length (xs.map (Value.int .i64)) hs hown' ad ys.length c (ys.map (Value.int .i64)) hx (by simp) ?_ ?_ ?_ ?_ ?_ ?_
  · intro j u hj
    have hjl : j < ys.length := by simpa using (List.getElem?_eq_some_iff.1 hj).1
    rw [hc j hjl]
    simp [hjl] at hj
    simp [hjl, hj]
  · intro u hu; simp at hu; obtain ⟨y, -, rfl⟩ := hu; rfl
  · unfold maxLen; omega
  · omega
  · exact hbase
  · intro v' w' h1 h2 _
    refine h v' w' ?_ h2
    unfold Own
    rw [List.length_append, List.map_append]
    exact h1
set_option maxHeartbeats 400000 in
theorem clone_any (v : Value) (xs : List Int) (w : World) (h : Rd w v xs) (h0 : 0 < xs.length) (hl : xs.length ≤ 1048576) :
    Calls Try.prog 117 #[v] w fun e w' => ∃ v', e = .returned v' ∧ Own w' w.heap.size v' xs ∧ Below w.heap.size w w' := by
  obtain ⟨A, c, rfl, hlc, hm, hc⟩ := h
  obtain ⟨g, off, rfl, hg, hx⟩ := hc h0
  have hx' : ∀ k, k < xs.length → (w.alloc (.cells #[] 3)).cell? ((⟨g, off, none⟩ : Addr).add k) = some (.int .i64 (xs.getD k 0)) := fun k hk => by
    rw [Addr.add_lit, World.cell?_alloc_lt _ _ _ (by exact hg)]
    exact hx k hk
  have HX := Lib.hid hx'
  have ho := Own.lit w w.heap.size [] (Nat.le_refl _) (by simp)
  have HO := Lib.hid ho
  clear hx hx' hc ho
  generalize hn : xs.length = n at *
  have HN := Lib.hid hn
  have e0 : ∀ w : World, (binOp .eql 23 (.slice (some ⟨g, off, none⟩) n c) (.slice none 0 0)).run Try.prog w = .ok (.bool false) w := fun _ => by kernel_rfl
  go_enter Try.func117, Try.ntmps117
  go_wp2_with (at_builtin; refine wp_appendN (w.alloc (.cells #[] 3)) rfl (.tmp 5) (.tmp 6) rfl w.heap.size _ [] rfl HO.out ⟨g, off, none⟩ c xs (by rw [hn]; simp [Act.eval]) (by rw [hn]; exact HX.out) (by simp; omega) (by simp) ?_; intro v' w' ho hgr; have HO2 := Lib.hid ho; have HG2 := Lib.hid hgr; clear ho hgr)
  go_ret
  exact ⟨_, rfl, by simpa using HO2.out, Below.grown (below_alloc1 w _) HG2.out (by simp) (fun k hk => (HO.out.lt k hk).1)⟩
end Go.Proofs.Ytcmpioalnpmpmaa

namespace Go.Proofs.Ytcmpioalnpmpmaa
open Go.RowKit Go.Sort

/-- the i-th of a list goes on a way -/
def wayAt (s : Int) (xs ys : List Int) (i : Nat) : Bool := inB (ys.getD i 0) 0 (s - 1) && (!(containsI (ys.take i) (ys.getD i 0)) && (i == 0 || bitI (xs.getD (ys.getD (i - 1) 0).toNat 0) (ys.getD i 0).toNat))
def wayK (s : Int) (xs ys : List Int) (k : Nat) : Bool := (List.range k).all (wayAt s xs ys)
noncomputable def wayB (s : Int) (xs ys : List Int) : Bool := tourB s xs && wayK s xs ys ys.length
theorem wayK_true {s : Int} {xs ys : List Int} {k : Nat} : wayK s xs ys k = true ↔ ∀ i, i < k → wayAt s xs ys i = true := by simp [wayK]
theorem wayK_no {s : Int} {xs ys : List Int} {k n : Nat} (hk : k < n) (h : wayAt s xs ys k = false) : wayK s xs ys n = false := by
  rcases hq : wayK s xs ys n with _ | _
  · rfl
  · have := wayK_true.1 hq k hk; rw [h] at this; cases this
theorem Rd.take_ {w : World} {A : Option Addr} {n c : Nat} {ys : List Int} (h : Rd w (.slice A n c) ys) (k : Nat) (hk : k ≤ ys.length) : Rd w (.slice A k c) (ys.take k) := by
  obtain ⟨A', c', e, hl, hm, hc⟩ := h
  injection e with e1 e2 e3
  subst e1
  subst e3
  have hl2 : (ys.take k).length = k := by rw [List.length_take]; omega
  refine ⟨A, c, by rw [hl2], by omega, hm, fun h0 => ?_⟩
  obtain ⟨g, off, hA, hg, hx⟩ := hc (by omega)
  refine ⟨g, off, hA, hg, fun j hj => ?_⟩
  rw [hx j (by omega)]
  congr 2
  simp [List.getD_eq_getElem?_getD, List.getElem?_take, show j < k by omega]
set_option maxHeartbeats 2000000 in
theorem implIsWay (s : Int) (sl : Value) (xs : List Int) (yv : Value) (ys : List Int) (w : World) (h : Rd w sl xs) (h2 : Rd w yv ys) :
    Calls Try.prog 42 #[.agg #[.int .i64 s, sl], yv] w fun e w' => e = .returned (.bool (wayB s xs ys)) ∧ Below w.heap.size w w' := by
  have HR := Lib.hid h
  have HW := Lib.hid h2
  obtain ⟨A, c, rfl, -, -, -⟩ := h
  obtain ⟨B, d, rfl, hl2, hm2, hc2⟩ := h2
  unfold maxLen at hm2
  have HC := Lib.hid hc2
  clear hc2
  rcases q0 : tourB s xs with _ | _
  case false =>
    go_enter Try.func42, Try.ntmps42
    go_wp2_with fail
    have b0 := below_alloc1 w (.cells #[.int .i64 s, .slice A xs.length c] 25)
    have x0 := TBox.new w s (.slice A xs.length c) 25
    generalize w.alloc (.cells #[.int .i64 s, .slice A xs.length c] 25) = w0 at *
    have HX0 := Lib.hid x0
    have HB0 := Lib.hid b0
    clear x0 b0
    have y0_0 := HX0.out.1
    have y1_0 := HX0.out.2
    go_wp2_with fail
    refine (implTourOk s _ xs _ (HR.out.below HB0.out)).mono ?_
    rintro e w1 ⟨rfl, hb⟩
    have HX1 := Lib.hid (HX0.out.below hb)
    have HB1 := Lib.hid (Below.then HB0.out hb)
    clear hb HX0 HB0 y0_0 y1_0
    have y0_1 := HX1.out.1
    have y1_1 := HX1.out.2
    rw [q0]
    go_wp2
    go_ret
    exact ⟨ret_bool (by simp [wayB, *]), HB1.out⟩
  have hs := (tourB_true.1 q0).1
  have hsl := (tourB_true.1 q0).2.1
  go_enter Try.func42, Try.ntmps42
  go_wp2_with fail
  have b0 := below_alloc1 w (.cells #[.int .i64 s, .slice A xs.length c] 25)
  have x0 := TBox.new w s (.slice A xs.length c) 25
  generalize w.alloc (.cells #[.int .i64 s, .slice A xs.length c] 25) = w0 at *
  have HX0 := Lib.hid x0
  have HB0 := Lib.hid b0
  clear x0 b0
  have y0_0 := HX0.out.1
  have y1_0 := HX0.out.2
  go_wp2_with fail
  refine (implTourOk s _ xs _ (HR.out.below HB0.out)).mono ?_
  rintro e w1 ⟨rfl, hb⟩
  have HX1 := Lib.hid (HX0.out.below hb)
  have HB1 := Lib.hid (Below.then HB0.out hb)
  clear hb HX0 HB0 y0_0 y1_0
  have y0_1 := HX1.out.1
  have y1_1 := HX1.out.2
  rw [q0]
  generalize hn : ys.length = n at *
  have HN := Lib.hid hn
  clear hn
  go_wp2
  go_loopw [12] (fun i wr => ∃ k : Nat, k ≤ n ∧ i = .int .i64 k ∧ Hid (∀ j, j < k → wayAt s xs ys j = true) ∧ Below w.heap.size w wr ∧ TBox wr w.heap.size s (.slice A xs.length c)) (fun i _ => n - (intOf i).toNat)
  case atStart => exact ⟨0, by omega, rfl, fun _ h => absurd h (by omega), HB1.out, HX1.out⟩
  case round =>
    obtain ⟨k, hk, rfl, HP, hb, hx⟩ := hrel
    have HB2 := Lib.hid hb
    have HX2 := Lib.hid hx
    have y0_0 := hx.1
    have y1_0 := hx.2
    clear hx hb HB1 HX1 y0_1 y1_1
    by_cases hlt : k < n
    · obtain ⟨g, off, rfl, hg, hy⟩ := HC.out (by omega)
      have hyk := (HB2.out.cell (by exact hg)).trans (hy k hlt)
      have hat : wayAt s xs ys k = (inB (ys.getD k 0) 0 (s - 1) && (!(containsI (ys.take k) (ys.getD k 0)) && (k == 0 || bitI (xs.getD (ys.getD (k - 1) 0).toNat 0) (ys.getD k 0).toNat))) := rfl
      have HA := Lib.hid hat
      have ky := fun (y : Int) => quiet_below (w := wr) (fun W hW => has_any s (.slice A xs.length c) y W (by omega))
      have kc := fun (y : Int) => quiet_below (w := wr) (fun W hW => of_same (contains_any _ (ys.take k) y W (((HW.out.below HB2.out).below hW).take_ k (by rw [HN.out]; omega))))
      have k1 := ky (ys.getD k 0)
      have k2 := kc (ys.getD k 0)
      have k3 := fun h1 h2 h3 h4 => quiet_below (w := wr) (fun W hW => beats_any s (.slice A xs.length c) xs (ys.getD (k - 1) 0) (ys.getD k 0) W ((HR.out.below HB2.out).below hW) h1 h2 h3 h4)
      clear ky kc hat
      have FALSE := Lib.hid (fun (hq : wayAt s xs ys k = false) => show wayB s xs ys = false by rw [wayB, wayK_no (by rw [HN.out]; exact hlt) hq, Bool.and_false])
      have NEXT := Lib.hid (fun (hq : wayAt s xs ys k = true) => show ∀ j, j < k + 1 → wayAt s xs ys j = true from fun j hj => by
        by_cases hjk : j < k
        · exact HP.out j hjk
        · obtain rfl : j = k := by omega
          exact hq)
      rcases Nat.eq_zero_or_pos k with rfl | hk0
      · clear k3 hy
        rw [Nat.add_zero] at hyk
        generalize ys.getD 0 0 = y at *
        rcases q1 : inB y 0 (s - 1) with _ | _
        · rw [q1] at k1
          go_wp2_with fail
          have y0_q := cell_regrown y0_0
          have y1_q := cell_regrown y1_0
          clear y0_0 y1_0
          refine wp_region_below (by kernel_rfl) (by kernel_rfl) ?_
          repeat (go_big_quiet_step (first | (with_reducible exact k1 _ _)))
          refine wpQuiet_nil ?_
          intro wq hbq0
          have hbq := Lib.hid hbq0
          clear hbq0
          clear y0_q y1_q
          go_wp2
          go_ret
          exact ⟨ret_bool (FALSE.out (by rw [HA.out, q1]; rfl)).symm, Below.then HB2.out hbq.out⟩
        · rw [q1] at k1
          rcases q2 : containsI (ys.take 0) y with _ | _
          · rw [q2] at k2
            go_wp2_with fail
            have y0_q := cell_regrown y0_0
            have y1_q := cell_regrown y1_0
            clear y0_0 y1_0
            refine wp_region_below (by kernel_rfl) (by kernel_rfl) ?_
            repeat (go_big_quiet_step (first | (with_reducible exact k1 _ _) | (with_reducible exact k2 _ _)))
            refine wpQuiet_nil ?_
            intro wq hbq0
            have hbq := Lib.hid hbq0
            clear hbq0
            clear y0_q y1_q
            go_wp2
            go_roundw
            case rel => exact ⟨0 + 1, by omega, by go_num, NEXT.out (by rw [HA.out, q1, q2]; rfl), Below.then HB2.out hbq.out, HX2.out.below hbq.out⟩
            case measure => simp [intOf]; omega
          · rw [q2] at k2
            go_wp2_with fail
            have y0_q := cell_regrown y0_0
            have y1_q := cell_regrown y1_0
            clear y0_0 y1_0
            refine wp_region_below (by kernel_rfl) (by kernel_rfl) ?_
            repeat (go_big_quiet_step (first | (with_reducible exact k1 _ _) | (with_reducible exact k2 _ _)))
            refine wpQuiet_nil ?_
            intro wq hbq0
            have hbq := Lib.hid hbq0
            clear hbq0
            clear y0_q y1_q
            go_wp2
            go_ret
            exact ⟨ret_bool (FALSE.out (by rw [HA.out, q1, q2]; rfl)).symm, Below.then HB2.out hbq.out⟩
      · obtain ⟨m, rfl⟩ : ∃ m, k = m + 1 := ⟨k - 1, by omega⟩
        have hym := (HB2.out.cell (by exact hg)).trans (hy m (by omega))
        have cm := cell_regrown hym
        have hpm := HP.out m (by omega)
        simp only [Nat.add_sub_cancel] at k3 HA
        clear hy hym
        unfold wayAt at hpm
        rw [Bool.and_eq_true] at hpm
        have hy' := inB_true.1 hpm.1
        clear hpm
        generalize ys.getD (m + 1) 0 = y at *
        generalize ys.getD m 0 = y' at *
        rcases q1 : inB y 0 (s - 1) with _ | _
        · rw [q1] at k1
          go_wp2_with fail
          have y0_q := cell_regrown y0_0
          have y1_q := cell_regrown y1_0
          clear y0_0 y1_0
          refine wp_region_below (by kernel_rfl) (by kernel_rfl) ?_
          repeat (go_big_quiet_step (first | (with_reducible exact k1 _ _)))
          refine wpQuiet_nil ?_
          intro wq hbq0
          have hbq := Lib.hid hbq0
          clear hbq0
          clear y0_q y1_q
          go_wp2
          go_ret
          exact ⟨ret_bool (FALSE.out (by rw [HA.out, q1]; rfl)).symm, Below.then HB2.out hbq.out⟩
        · rw [q1] at k1
          have hy1 := inB_true.1 q1
          have k4 := k3 (by omega) (by omega) (by omega) (by omega)
          clear k3
          rcases q2 : containsI (ys.take (m + 1)) y with _ | _
          · rw [q2] at k2
            rcases q3 : bitI (xs.getD y'.toNat 0) y.toNat with _ | _
            · rw [q3] at k4
              go_wp2_with fail
              have y0_q := cell_regrown y0_0
              have y1_q := cell_regrown y1_0
              clear y0_0 y1_0
              refine wp_region_below (by kernel_rfl) (by kernel_rfl) ?_
              repeat (go_big_quiet_step (first | (with_reducible exact k1 _ _) | (with_reducible exact k2 _ _) | (with_reducible exact k4 _ _)))
              refine wpQuiet_nil ?_
              intro wq hbq0
              have hbq := Lib.hid hbq0
              clear hbq0
              clear y0_q y1_q
              go_wp2
              go_ret
              exact ⟨ret_bool (FALSE.out (by rw [HA.out, q1, q2, q3]; rfl)).symm, Below.then HB2.out hbq.out⟩
            · rw [q3] at k4
              go_wp2_with fail
              have y0_q := cell_regrown y0_0
              have y1_q := cell_regrown y1_0
              clear y0_0 y1_0
              refine wp_region_below (by kernel_rfl) (by kernel_rfl) ?_
              repeat (go_big_quiet_step (first | (with_reducible exact k1 _ _) | (with_reducible exact k2 _ _) | (with_reducible exact k4 _ _)))
              refine wpQuiet_nil ?_
              intro wq hbq0
              have hbq := Lib.hid hbq0
              clear hbq0
              clear y0_q y1_q
              go_wp2
              go_roundw
              case rel => exact ⟨m + 1 + 1, by omega, by go_num, NEXT.out (by rw [HA.out, q1, q2, q3]; simp), Below.then HB2.out hbq.out, HX2.out.below hbq.out⟩
              case measure => simp [intOf]; omega
          · rw [q2] at k2
            go_wp2_with fail
            have y0_q := cell_regrown y0_0
            have y1_q := cell_regrown y1_0
            clear y0_0 y1_0
            refine wp_region_below (by kernel_rfl) (by kernel_rfl) ?_
            repeat (go_big_quiet_step (first | (with_reducible exact k1 _ _) | (with_reducible exact k2 _ _)))
            refine wpQuiet_nil ?_
            intro wq hbq0
            have hbq := Lib.hid hbq0
            clear hbq0
            clear y0_q y1_q
            go_wp2
            go_ret
            exact ⟨ret_bool (FALSE.out (by rw [HA.out, q1, q2]; rfl)).symm, Below.then HB2.out hbq.out⟩
    · obtain rfl : k = n := by omega
      go_wp2
      go_ret
      refine ⟨ret_bool ?_, HB2.out⟩
      rw [wayB, q0, HN.out, wayK_true.2 HP.out]; rfl
theorem wayAt_parts {s : Int} {xs ys : List Int} {i : Nat} (h : wayAt s xs ys i = true) : (0 ≤ ys.getD i 0 ∧ ys.getD i 0 ≤ s - 1) ∧ ys.getD i 0 ∉ ys.take i := by
  unfold wayAt containsI at h
  rw [Bool.and_eq_true, Bool.and_eq_true] at h
  exact ⟨inB_true.1 h.1, by simpa using h.2.1⟩
theorem way_nodup {s : Int} {xs ys : List Int} {k : Nat} (hk : k ≤ ys.length) (h : ∀ j, j < k → wayAt s xs ys j = true) : (ys.take k).Nodup ∧ ∀ y ∈ ys.take k, 0 ≤ y ∧ y ≤ s - 1 := by
  induction k with
  | zero => simp
  | succ k ih =>
    have ih := ih (by omega) (fun j hj => h j (by omega))
    have h1 := wayAt_parts (h k (by omega))
    have e : ys.getD k 0 = ys[k] := by simp [show k < ys.length by omega]
    rw [e] at h1
    rw [List.take_succ_eq_append_getElem (by omega)]
    refine ⟨List.nodup_append.2 ⟨ih.1, by simp, fun a ha b hb => ?_⟩, fun y hy => ?_⟩
    · rw [List.mem_singleton] at hb
      subst hb
      exact fun e => h1.2 (e ▸ ha)
    · rw [List.mem_append, List.mem_singleton] at hy
      rcases hy with hy | rfl
      · exact ih.2 y hy
      · exact h1.1
theorem wayB_len {s : Int} {xs ys : List Int} (h : wayB s xs ys = true) : (ys.length : Int) ≤ s := by
  unfold wayB at h
  rw [Bool.and_eq_true] at h
  have h0 := (tourB_true.1 h.1).1
  have hn := way_nodup (Nat.le_refl _) (wayK_true.1 h.2)
  rw [List.take_length] at hn
  obtain ⟨n, rfl⟩ := Int.eq_ofNat_of_zero_le (by omega : 0 ≤ s)
  have := nodup_le n ys hn.1 (fun y hy => by have := hn.2 y hy; omega)
  omega
theorem wayB_long {s : Int} {xs ys : List Int} (h : s < (ys.length : Int)) : wayB s xs ys = false := by
  rcases hq : wayB s xs ys with _ | _
  · rfl
  · have := wayB_len hq; omega
end Go.Proofs.Ytcmpioalnpmpmaa

namespace Go.Proofs.Ytcmpioalnpmpmaa
open Go.RowKit Go.Sort
set_option maxRecDepth 100000
def idsL (n : Nat) : List Int := (List.range n).map fun (a : Nat) => (a : Int)
theorem idsL_succ (n : Nat) : idsL (n + 1) = idsL n ++ [(n : Int)] := by unfold idsL; rw [List.range_succ, List.map_append]; rfl
theorem idsL_len (n : Nat) : (idsL n).length = n := by simp [idsL]
theorem idsL_mem {n : Nat} {x : Int} (h : x ∈ idsL n) : ∃ a : Nat, a < n ∧ x = a := by
  unfold idsL at h
  rw [List.mem_map] at h
  obtain ⟨a, ha, e⟩ := h
  exact ⟨a, List.mem_range.1 ha, e.symm⟩
def befK (L : List Int) (x y : Int) : Bool := decide (L.getD y.toNat 0 < L.getD x.toNat 0)
def ordK (L : List Int) (i : Nat) : List Int := sortR (befK L) (idsL i)
theorem ordK_succ (L : List Int) (i : Nat) : ordK L (i + 1) = insR (befK L) (ordK L i) (i : Int) := by
  unfold ordK sortR
  rw [idsL_succ, List.foldl_append]; rfl
theorem ordK_len (L : List Int) (i : Nat) : (ordK L i).length = i := by
  have := sortR_len (befK L) (idsL i) (Nat.le_refl _)
  rw [List.take_length, idsL_len] at this
  exact this
theorem ordK_at {L : List Int} {i k : Nat} (h : k < i) : ∃ a : Nat, a < i ∧ (ordK L i).getD k 0 = a := by
  have h1 : (ordK L i).getD k 0 ∈ ordK L i := getD_memI (by rw [ordK_len]; exact h)
  have h2 : (ordK L i).getD k 0 ∈ idsL i := by
    have := mem_sortR (bef := befK L) (L := idsL i) (i := (idsL i).length) (Nat.le_refl _) (y := (ordK L i).getD k 0) (by rw [List.take_length]; exact h1)
    exact this
  exact idsL_mem h2
end Go.Proofs.Ytcmpioalnpmpmaa

namespace Go.Proofs.Ytcmpioalnpmpmaa
open Go.RowKit Go.Sort
set_option maxRecDepth 100000
theorem idx_ids (n : Nat) : idxL n = idsL n := rfl
def cmpC (x y : Int) : Int := if x < y then -1 else if y < x then 1 else 0
set_option maxHeartbeats 2000000 in
theorem isNaN_any (x : Int) (w : World) : Calls Try.prog 136 #[.int .i64 x] w fun e w' => e = .returned (.bool false) ∧ w = w' := by
  go_enter Try.func136, Try.ntmps136
  go_wp2
  go_ret
  exact ⟨by simp, rfl⟩
set_option maxHeartbeats 2000000 in
theorem compare_any (x y : Int) (w : World) : Calls Try.prog 83 #[.int .i64 x, .int .i64 y] w fun e w' => e = .returned (.int .i64 (cmpC x y)) ∧ w = w' := by
  have HC : Hid (cmpC x y = if x < y then -1 else if y < x then 1 else 0) := rfl
  go_enter Try.func83, Try.ntmps83
  go_wp2_with fail
  refine (isNaN_any x _).mono ?_
  rintro e w1 ⟨rfl, rfl⟩
  go_wp2_with fail
  refine (isNaN_any y _).mono ?_
  rintro e w1 ⟨rfl, rfl⟩
  by_cases h1 : x < y
  · go_wp2
    go_ret
    exact ⟨ret_int (by rw [HC.out, if_pos h1]), rfl⟩
  · by_cases h2 : y < x
    · go_wp2
      go_ret
      exact ⟨ret_int (by rw [HC.out, if_neg (by omega), if_pos h2]), rfl⟩
    · go_wp2
      go_ret
      exact ⟨ret_int (by rw [HC.out, if_neg (by omega), if_neg (by omega)]), rfl⟩
set_option maxHeartbeats 2000000 in
theorem ord1_any (L : List Int) (v : Value) (gb a b : Nat) (W : World) (hb : W.cell? ⟨gb, 0, none⟩ = some v) (h : Rd W v L) (ha : a < L.length) (hb2 : b < L.length) :
    Calls Try.prog 82 #[.int .i64 a, .int .i64 b, .pointer (some ⟨gb, 0, none⟩)] W fun e w' => e = .returned (.int .i64 (cmpC (L.getD b 0) (L.getD a 0))) ∧ Below W.heap.size W w' := by
  obtain ⟨A, c, rfl, hl, hm, hx⟩ := h
  unfold maxLen at hm
  obtain ⟨g, o, rfl, hg, hc⟩ := hx (by omega)
  have za := hc a ha
  have zb := hc b hb2
  generalize L.getD a 0 = xa at *
  generalize L.getD b 0 = xb at *
  generalize hn : L.length = n at *
  have HN := Lib.hid hn
  clear hn hc hx
  go_enter Try.func82, Try.ntmps82
  go_wp2_with fail
  go_region_held3 (fun W => W.cell? ⟨gb, 0, none⟩ = some (.slice (some ⟨g, o, none⟩) n c) ∧ W.cell? ⟨g, o + a, none⟩ = some (.int .i64 xa) ∧ W.cell? ⟨g, o + b, none⟩ = some (.int .i64 xb))
    (first | exact ⟨hb, za, zb⟩)
    (first
      | (go_at_call 83; refine (compare_any _ _ _).mono ?_; rintro e wz ⟨rfl, rfl⟩))
  all_goals
    go_wp2
    go_ret
    exact ⟨rfl, (let r := Below.refl W.heap.size W; ⟨r.os, r.tape, r.output, r.size, r.block⟩)⟩
end Go.Proofs.Ytcmpioalnpmpmaa

namespace Go.Proofs.Ytcmpioalnpmpmaa
open Go.RowKit Go.Sort
set_option maxRecDepth 100000
theorem ord_eq (L : List Int) (n : Nat) (_h : n = L.length) : sortR (fun x y => decide (cmpC (L.getD y.toNat 0) (L.getD x.toNat 0) < 0)) (idxL n) = ordK L n := by
  unfold ordK
  rw [idx_ids]
  congr 1
  funext x y
  unfold befK
  rw [decide_eq_decide]
  unfold cmpC
  generalize L.getD y.toNat 0 = p
  generalize L.getD x.toNat 0 = q
  by_cases h1 : p < q
  · simp [h1]
  · rw [if_neg h1]
    by_cases h2 : q < p
    · simp [h2]; omega
    · rw [if_neg h2]; simp; omega
set_option maxHeartbeats 2000000 in
theorem orderBy_any (L : List Int) (v : Value) (w : World) (h : Rd w v L) (h1 : 1 ≤ L.length) (h2 : L.length < 20) :
    Calls Try.prog 18 #[v] w fun e w' => ∃ v', e = .returned v' ∧ Own w' w.heap.size v' (ordK L L.length) ∧ Below w.heap.size w w' := by
  have HR := Lib.hid h
  obtain ⟨A, c, rfl, -, hm, -⟩ := h
  unfold maxLen at hm
  generalize hn : L.length = n at *
  have HN := Lib.hid hn
  have HE := Lib.hid (ord_eq L n hn.symm)
  clear hn
  have hE : Enters 82 := fun args W => by kernel_rfl
  go_enter Try.func18, Try.ntmps18
  have b0 := below_alloc1 w (.cells #[.slice A n c] 23)
  have z0 : (w.alloc (.cells #[.slice A n c] 23)).cell? ⟨w.heap.size, 0, none⟩ = some (.slice A n c) := by simp
  have HB0 := Lib.hid b0
  have HZ0 := Lib.hid z0
  clear b0
  go_wp2_with fail
  refine (indices_any n (by omega) _ h1).mono ?_
  rintro e w4 ⟨rfl, ho4, hb4⟩
  generalize w.alloc (.cells #[.slice A n c] 23) = w3 at *
  have HO4 := Lib.hid ho4
  have HB4 := Lib.hid hb4
  clear ho4 hb4 z0
  go_wp2_with fail
  refine (sortStable_any 82 #[.pointer (some ⟨w.heap.size, 0, none⟩)] hE (fun x y => cmpC (L.getD y.toNat 0) (L.getD x.toNat 0)) (idxL n) n w3.heap.size w3.heap.size n w4 (idxL_len n) (by omega) (by omega) (Nat.le_refl _) (by omega) HB4.out.size HO4.out (fun x hx y hy W hW => by
    obtain ⟨a, ha, rfl⟩ := idxL_mem hx
    obtain ⟨b, hb, rfl⟩ := idxL_mem hy
    have hWW : Below w3.heap.size w3 W := HB4.out.trans hW
    exact ord1_any L _ w.heap.size a b W ((hWW.cell (p := ⟨w.heap.size, 0, none⟩) (World.block_lt_of_cell? _ _ HZ0.out)).trans HZ0.out) (HR.out.below (Below.then HB0.out hWW)) (by rw [HN.out]; exact ha) (by rw [HN.out]; exact hb))).mono ?_
  rintro e w5 ⟨rfl, ho5, hb5⟩
  have HO5 := Lib.hid ho5
  have HB5 := Lib.hid (HB4.out.trans hb5)
  clear ho5 hb5
  go_wp2
  go_ret
  exact ⟨_, rfl, by rw [← HE.out]; exact HO5.out.mono HB0.out.size, Below.then HB0.out HB5.out⟩
noncomputable def poL (s : Int) (xs : List Int) (k : Int) : List Int := ordK (pwR s xs k) (pwR s xs k).length
theorem poL_len (s : Int) (xs : List Int) (k : Int) : (poL s xs k).length ≤ 8 := by
  unfold poL; rw [ordK_len]; exact pwR_len s xs k
theorem pwR_no {s : Int} {xs : List Int} {k : Int} (h : (tourB s xs && inB k 0 12) = false) : pwR s xs k = [] := by unfold pwR; rw [h]; rfl
theorem pwR_pos {s : Int} {xs : List Int} {k : Int} (h : (tourB s xs && inB k 0 12) = true) : 1 ≤ (pwR s xs k).length := by
  unfold pwR
  rw [if_pos h, pwL_len]
  rw [Bool.and_eq_true] at h
  have := (tourB_true.1 h.1).1
  have := (tourB_true.1 h.1).2.1
  omega
theorem ordK_nil : ordK [] 0 = [] := rfl
set_option maxHeartbeats 2000000 in
theorem implPowerNil (s : Int) (sl : Value) (xs : List Int) (k : Int) (w : World) (h : Rd w sl xs) (hno : (tourB s xs && inB k 0 12) = false) :
    Calls Try.prog 11 #[.agg #[.int .i64 s, sl], .int .i64 k] w fun e w' => e = .returned (.slice none 0 0) ∧ Below w.heap.size w w' := by
  have HR := Lib.hid h
  obtain ⟨A, c, rfl, -, -, -⟩ := h
  rcases q0 : tourB s xs with _ | _
  case false =>
    go_enter Try.func11, Try.ntmps11
    go_wp2_with fail
    have b0 := below_alloc1 w (.cells #[.int .i64 s, .slice A xs.length c] 25)
    have x0 := TBox.new w s (.slice A xs.length c) 25
    generalize w.alloc (.cells #[.int .i64 s, .slice A xs.length c] 25) = w0 at *
    have HX0 := Lib.hid x0
    have HB0 := Lib.hid b0
    clear x0 b0
    have y0_0 := HX0.out.1
    have y1_0 := HX0.out.2
    go_wp2_with fail
    refine (implTourOk s _ xs _ (HR.out.below HB0.out)).mono ?_
    rintro e w1 ⟨rfl, hb⟩
    have HX1 := Lib.hid (HX0.out.below hb)
    have HB1 := Lib.hid (Below.then HB0.out hb)
    clear hb HX0 HB0 y0_0 y1_0
    have y0_1 := HX1.out.1
    have y1_1 := HX1.out.2
    rw [q0]
    go_wp2
    go_ret
    exact ⟨rfl, HB1.out⟩
  rcases q1 : inB k 0 12 with _ | _
  case false =>
    go_enter Try.func11, Try.ntmps11
    go_wp2_with fail
    have b0 := below_alloc1 w (.cells #[.int .i64 s, .slice A xs.length c] 25)
    have x0 := TBox.new w s (.slice A xs.length c) 25
    generalize w.alloc (.cells #[.int .i64 s, .slice A xs.length c] 25) = w0 at *
    have HX0 := Lib.hid x0
    have HB0 := Lib.hid b0
    clear x0 b0
    have y0_0 := HX0.out.1
    have y1_0 := HX0.out.2
    go_wp2_with fail
    refine (implTourOk s _ xs _ (HR.out.below HB0.out)).mono ?_
    rintro e w1 ⟨rfl, hb⟩
    have HX1 := Lib.hid (HX0.out.below hb)
    have HB1 := Lib.hid (Below.then HB0.out hb)
    clear hb HX0 HB0 y0_0 y1_0
    have y0_1 := HX1.out.1
    have y1_1 := HX1.out.2
    rw [q0]
    go_wp2_with fail
    refine (within_any _ _ _ _).mono ?_
    rintro e wz ⟨rfl, rfl⟩
    rw [q1]
    go_wp2
    go_ret
    exact ⟨rfl, HB1.out⟩
  go_enter Try.func11, Try.ntmps11
  go_wp2_with fail
  have b0 := below_alloc1 w (.cells #[.int .i64 s, .slice A xs.length c] 25)
  have x0 := TBox.new w s (.slice A xs.length c) 25
  generalize w.alloc (.cells #[.int .i64 s, .slice A xs.length c] 25) = w0 at *
  have HX0 := Lib.hid x0
  have HB0 := Lib.hid b0
  clear x0 b0
  have y0_0 := HX0.out.1
  have y1_0 := HX0.out.2
  go_wp2_with fail
  refine (implTourOk s _ xs _ (HR.out.below HB0.out)).mono ?_
  rintro e w1 ⟨rfl, hb⟩
  have HX1 := Lib.hid (HX0.out.below hb)
  have HB1 := Lib.hid (Below.then HB0.out hb)
  clear hb HX0 HB0 y0_0 y1_0
  have y0_1 := HX1.out.1
  have y1_1 := HX1.out.2
  rw [q0]
  go_wp2_with fail
  refine (within_any _ _ _ _).mono ?_
  rintro e wz ⟨rfl, rfl⟩
  rw [q1]
  rw [q0, q1] at hno
  cases hno
set_option maxHeartbeats 2000000 in
theorem implPowOrd (s : Int) (sl : Value) (xs : List Int) (k : Int) (w : World) (h : Rd w sl xs) :
    Calls Try.prog 21 #[.agg #[.int .i64 s, sl], .int .i64 k] w fun e w' => ∃ v', e = .returned v' ∧ Own w' w.heap.size v' (poL s xs k) ∧ Below w.heap.size w w' := by
  have HR := Lib.hid h
  obtain ⟨A, c, rfl, -, -, -⟩ := h
  have qT : ∀ (w : World) (a : Option Addr) (n c n' c' : Nat), (binOp .eql 23 (.slice a n c) (.slice none n' c')).run Try.prog w = .ok (.bool a.isNone) w := fun w a n c n' c' => Lib.run_eql_slice_nil w _ _ a n c n' c' Try.underlying23
  go_enter Try.func21, Try.ntmps21
  go_wp2_with fail
  have b0 := below_alloc1 w (.cells #[.int .i64 s, .slice A xs.length c] 25)
  have x0 := TBox.new w s (.slice A xs.length c) 25
  generalize w.alloc (.cells #[.int .i64 s, .slice A xs.length c] 25) = w0 at *
  have HX0 := Lib.hid x0
  have HB0 := Lib.hid b0
  clear x0 b0
  have y0_0 := HX0.out.1
  have y1_0 := HX0.out.2
  rcases hv : (tourB s xs && inB k 0 12) with _ | _
  · have hF : Hid (poL s xs k = []) := by unfold Hid poL; rw [pwR_no hv]; rfl
    go_wp2_with fail
    refine (implPowerNil s _ xs k _ (HR.out.below HB0.out) hv).mono ?_
    rintro e w2 ⟨rfl, hb⟩
    have HB2 := Lib.hid (Below.then HB0.out hb)
    clear hb hv
    go_wp2
    go_ret
    exact ⟨_, rfl, by rw [hF.out]; exact Own.nil_ _ _, HB2.out⟩
  · have h1 := pwR_pos hv
    have h2 := pwR_len s xs k
    go_wp2_with fail
    refine (implPower s _ xs k _ (HR.out.below HB0.out)).mono ?_
    rintro e w2 ⟨v, rfl, ho, hb⟩
    obtain ⟨gp, cp, rfl, hgp, hcp, hncp, hpc, -⟩ := ho.at_ rfl (by omega)
    have HB2 := Lib.hid (Below.then HB0.out hb)
    have HO := Lib.hid (ho.mono HB0.out.size)
    have hs2 := HB2.out.size
    clear hb ho hpc hv
    go_wp2_with fail
    refine (orderBy_any (pwR s xs k) _ _ HO.out.rd h1 (by omega)).mono ?_
    rintro e w3 ⟨v3, rfl, ho3, hb3⟩
    have HO3 := Lib.hid ho3
    have HB3 := Lib.hid (Below.then HB2.out hb3)
    clear ho3 hb3
    go_wp2
    go_ret
    exact ⟨_, rfl, HO3.out.mono hs2, HB3.out⟩
end Go.Proofs.Ytcmpioalnpmpmaa

namespace Go.Proofs.Ytcmpioalnpmpmaa
set_option maxRecDepth 100000
def LtK (K : Int → Int) (x y : Int) : Prop := K x < K y ∨ (K x = K y ∧ x < y)
theorem LtK.trans {K : Int → Int} {x y z : Int} (h1 : LtK K x y) (h2 : LtK K y z) : LtK K x z := by
  unfold LtK at *
  omega
theorem LtK.le {K : Int → Int} {x y : Int} (h1 : LtK K x y) : K x ≤ K y := by
  unfold LtK at *
  omega
theorem ltK_of {K : Int → Int} {x y : Int} (h : ¬ K y < K x) (hl : x < y) : LtK K x y := by
  unfold LtK at *
  omega
theorem sorted_K {K : Int → Int} {X : List Int} (h : X.Pairwise (LtK K)) {i j : Nat} (hij : i ≤ j) (hj : j < X.length) : K (X.getD i 0) ≤ K (X.getD j 0) := by
  rcases Nat.lt_or_ge i j with hlt | hge
  · have := (List.pairwise_iff_getElem.1 h i j (by omega) hj hlt).le
    rw [show X.getD i 0 = X[i] by simp [show i < X.length by omega], show X.getD j 0 = X[j] by simp [hj]]
    exact this
  · have : i = j := by omega
    subst this; exact Int.le_refl _
theorem take_mem {X : List Int} {i : Nat} {x : Int} (h : x ∈ X.take i) : ∃ k, k < i ∧ k < X.length ∧ X.getD k 0 = x := by
  obtain ⟨k, hk, rfl⟩ := List.mem_iff_getElem.1 h
  rw [List.length_take] at hk
  exact ⟨k, by omega, by omega, by rw [List.getElem_take]; simp [show k < X.length by omega]⟩
theorem drop_mem {X : List Int} {i : Nat} {x : Int} (h : x ∈ X.drop i) : ∃ k, i ≤ k ∧ k < X.length ∧ X.getD k 0 = x := by
  obtain ⟨k, hk, rfl⟩ := List.mem_iff_getElem.1 h
  rw [List.length_drop] at hk
  exact ⟨i + k, by omega, by omega, by rw [List.getElem_drop]; simp [show i + k < X.length by omega]⟩
theorem pw_take {K : Int → Int} {X : List Int} (h : X.Pairwise (LtK K)) (i : Nat) : (X.take i).Pairwise (LtK K) := h.sublist (List.take_sublist i X)
theorem pw_drop {K : Int → Int} {X : List Int} (h : X.Pairwise (LtK K)) (i : Nat) : (X.drop i).Pairwise (LtK K) := h.sublist (List.drop_sublist i X)
theorem pw_cross {K : Int → Int} {X : List Int} (h : X.Pairwise (LtK K)) (i : Nat) : ∀ x ∈ X.take i, ∀ y ∈ X.drop i, LtK K x y := by
  have h2 := h
  rw [← List.take_append_drop i X, List.pairwise_append] at h2
  exact h2.2.2
/-- one element goes into the row behind it -/
theorem ins_left {K : Int → Int} {x : Int} {Y : List Int} {i : Nat} (hY : Y.Pairwise (LtK K)) (hx : ∀ y ∈ Y, x < y) (hlo : ∀ k, k < i → k < Y.length → K (Y.getD k 0) < K x) (hhi : ∀ k, i ≤ k → k < Y.length → ¬ K (Y.getD k 0) < K x) :
    (Y.take i ++ x :: Y.drop i).Pairwise (LtK K) ∧ (Y.take i ++ x :: Y.drop i).Perm ([x] ++ Y) := by
  constructor
  · rw [List.pairwise_append, List.pairwise_cons]
    refine ⟨pw_take hY i, ⟨fun y hy => ?_, pw_drop hY i⟩, fun y hy z hz => ?_⟩
    · obtain ⟨k, h1, h2, rfl⟩ := drop_mem hy
      exact ltK_of (hhi k h1 h2) (hx _ (List.mem_of_mem_drop hy))
    · rcases List.mem_cons.1 hz with rfl | hz
      · obtain ⟨k, h1, h2, rfl⟩ := take_mem hy
        exact .inl (hlo k h1 h2)
      · exact pw_cross hY i y hy z hz
  · refine List.perm_middle.trans ?_
    rw [List.take_append_drop]
    exact .refl _
/-- one element goes into the row ahead of it -/
theorem ins_right {K : Int → Int} {y : Int} {X : List Int} {i : Nat} (hX : X.Pairwise (LtK K)) (hy : ∀ x ∈ X, x < y) (hlo : ∀ k, k < i → k < X.length → ¬ K y < K (X.getD k 0)) (hhi : ∀ k, i ≤ k → k < X.length → K y < K (X.getD k 0)) :
    (X.take i ++ y :: X.drop i).Pairwise (LtK K) ∧ (X.take i ++ y :: X.drop i).Perm (X ++ [y]) := by
  constructor
  · rw [List.pairwise_append, List.pairwise_cons]
    refine ⟨pw_take hX i, ⟨fun x hx => ?_, pw_drop hX i⟩, fun x hx z hz => ?_⟩
    · obtain ⟨k, h1, h2, rfl⟩ := drop_mem hx
      exact .inl (hhi k h1 h2)
    · rcases List.mem_cons.1 hz with rfl | hz
      · obtain ⟨k, h1, h2, rfl⟩ := take_mem hx
        exact ltK_of (hlo k h1 h2) (hy _ (List.mem_of_mem_take hx))
      · exact pw_cross hX i x hx z hz
  · refine List.perm_middle.trans ?_
    rw [List.take_append_drop]
    exact (List.perm_append_comm (l₁ := [y]))
/-- the split of the symmetric merge: positions s of X and t of Y -/
theorem split_cross {K : Int → Int} {X Y : List Int} {s t : Nat} (hX : X.Pairwise (LtK K)) (hY : Y.Pairwise (LtK K)) (hx : ∀ x ∈ X, ∀ y ∈ Y, x < y) (h1 : 0 < s → t < Y.length → ¬ K (Y.getD t 0) < K (X.getD (s - 1) 0)) (h2 : s < X.length → 0 < t → K (Y.getD (t - 1) 0) < K (X.getD s 0)) (hs : s ≤ X.length) (ht : t ≤ Y.length) :
    ∀ x ∈ X.take s ++ Y.take t, ∀ y ∈ X.drop s ++ Y.drop t, LtK K x y := by
  intro x mx y my
  rw [List.mem_append] at mx my
  rcases mx with mx | mx <;> rcases my with my | my
  · exact pw_cross hX s x mx y my
  · have hlt := hx x (List.mem_of_mem_take mx) y (List.mem_of_mem_drop my)
    obtain ⟨i, i1, i2, rfl⟩ := take_mem mx
    obtain ⟨j, j1, j2, rfl⟩ := drop_mem my
    have e1 := sorted_K hX (i := i) (j := s - 1) (by omega) (by omega)
    have e2 := sorted_K hY (i := t) (j := j) (by omega) (by omega)
    have e3 := h1 (by omega) (by omega)
    exact ltK_of (by omega) hlt
  · obtain ⟨i, i1, i2, rfl⟩ := take_mem mx
    obtain ⟨j, j1, j2, rfl⟩ := drop_mem my
    have e1 := sorted_K hY (i := i) (j := t - 1) (by omega) (by omega)
    have e2 := sorted_K hX (i := s) (j := j) (by omega) (by omega)
    have e3 := h2 (by omega) (by omega)
    exact .inl (by omega)
  · exact pw_cross hY t x mx y my
theorem merge_join {K : Int → Int} {X1 X2 Y1 Y2 M1 M2 : List Int} (p1 : M1.Perm (X1 ++ Y1)) (p2 : M2.Perm (X2 ++ Y2)) (s1 : M1.Pairwise (LtK K)) (s2 : M2.Pairwise (LtK K)) (hc : ∀ x ∈ X1 ++ Y1, ∀ y ∈ X2 ++ Y2, LtK K x y) :
    (M1 ++ M2).Perm ((X1 ++ X2) ++ (Y1 ++ Y2)) ∧ (M1 ++ M2).Pairwise (LtK K) := by
  constructor
  · refine (p1.append p2).trans ?_
    rw [List.append_assoc, List.append_assoc]
    refine List.Perm.append_left X1 ?_
    rw [← List.append_assoc, ← List.append_assoc]
    exact List.Perm.append_right Y2 List.perm_append_comm
  · rw [List.pairwise_append]
    exact ⟨s1, s2, fun x hx y hy => hc x (p1.mem_iff.1 hx) y (p2.mem_iff.1 hy)⟩
/-- sorted and of the same elements: the same list -/
theorem ltK_unique {K : Int → Int} : ∀ {A B : List Int}, A.Pairwise (LtK K) → B.Pairwise (LtK K) → A.Perm B → A = B
  | [], B, _, _, p => (List.nil_perm.1 p).symm
  | a :: A, [], _, _, p => by have := p.length_eq; simp at this
  | a :: A, b :: B, hA, hB, p => by
    rw [List.pairwise_cons] at hA hB
    have hab : a = b := by
      have ha : a ∈ b :: B := p.mem_iff.1 List.mem_cons_self
      have hb : b ∈ a :: A := p.mem_iff.2 List.mem_cons_self
      rcases List.mem_cons.1 ha with h | h
      · exact h
      · rcases List.mem_cons.1 hb with h' | h'
        · exact h'.symm
        · have h1 := hB.1 a h
          have h2 := hA.1 b h'
          unfold LtK at h1 h2
          omega
    subst hab
    rw [ltK_unique hA.2 hB.2 (List.perm_cons a |>.1 p)]
end Go.Proofs.Ytcmpioalnpmpmaa

namespace Go.Proofs.Ytcmpioalnpmpmaa
set_option maxRecDepth 100000
theorem posR_spec (bef : Int → Int → Bool) (x : Int) (S : List Int) (n : Nat) : (posR bef x S n = 0 ∨ bef x (S.getD (posR bef x S n - 1) 0) = false) ∧ ∀ k, posR bef x S n ≤ k → k < n → bef x (S.getD k 0) = true := by
  induction n with
  | zero => exact ⟨.inl rfl, fun k _ h => absurd h (by omega)⟩
  | succ n ih =>
    rcases hq : bef x (S.getD n 0) with _ | _
    · rw [posR_stop hq]
      exact ⟨.inr (by simpa using hq), fun k h1 h2 => absurd h1 (by omega)⟩
    · rw [posR_go hq]
      refine ⟨ih.1, fun k h1 h2 => ?_⟩
      by_cases h : k = n
      · rw [h]; exact hq
      · exact ih.2 k h1 (by omega)
theorem insR_sorted {K : Int → Int} {bef : Int → Int → Bool} {S : List Int} {x : Int} (hb : ∀ a ∈ S, bef x a = decide (K x < K a)) (hS : S.Pairwise (LtK K)) (hx : ∀ y ∈ S, y < x) : (insR bef S x).Pairwise (LtK K) ∧ (insR bef S x).Perm (S ++ [x]) := by
  obtain ⟨h1, h2⟩ := posR_spec bef x S S.length
  have h3 := posR_le bef x S S.length
  unfold insR
  refine ins_right hS hx (fun k q1 q2 => ?_) (fun k q1 q2 => ?_)
  · rcases h1 with h1 | h1
    · omega
    · rw [hb _ (getD_memI (by omega))] at h1
      have e1 := of_decide_eq_false h1
      have e2 := sorted_K hS (i := k) (j := posR bef x S S.length - 1) (by omega) (by omega)
      omega
  · have e := h2 k q1 q2
    rw [hb _ (getD_memI q2)] at e
    exact of_decide_eq_true e
theorem sortR_sorted {K : Int → Int} {bef : Int → Int → Bool} (L : List Int) (hb : ∀ x ∈ L, ∀ y ∈ L, bef x y = decide (K x < K y)) (hL : L.Pairwise (· < ·)) : (sortR bef L).Pairwise (LtK K) ∧ (sortR bef L).Perm L := by
  have : ∀ i, i ≤ L.length → (sortR bef (L.take i)).Pairwise (LtK K) ∧ (sortR bef (L.take i)).Perm (L.take i) := by
    intro i
    induction i with
    | zero => intro _; exact ⟨by simp [sortR], by simp [sortR]⟩
    | succ i ih =>
      intro hi
      obtain ⟨h1, h2⟩ := ih (by omega)
      rw [sortR_succ bef L (by omega), List.take_succ_eq_append_getElem (by omega), show L.getD i 0 = L[i] by simp [show i < L.length by omega]]
      have h3 : ∀ a ∈ sortR bef (L.take i), a ∈ L.take i := fun a ha => h2.mem_iff.1 ha
      obtain ⟨r1, r2⟩ := insR_sorted (K := K) (bef := bef) (S := sortR bef (L.take i)) (x := L[i]) (fun a ha => hb _ (List.getElem_mem _) _ (List.mem_of_mem_take (h3 a ha))) h1 (fun y hy => by
        have := h3 y hy
        have hp := hL
        rw [← List.take_append_drop i L, List.pairwise_append] at hp
        exact hp.2.2 y this _ (by rw [List.drop_eq_getElem_cons (by omega)]; exact List.mem_cons_self))
      exact ⟨r1, r2.trans (h2.append_right _)⟩
  have := this L.length (Nat.le_refl _)
  rwa [List.take_length] at this
end Go.Proofs.Ytcmpioalnpmpmaa

