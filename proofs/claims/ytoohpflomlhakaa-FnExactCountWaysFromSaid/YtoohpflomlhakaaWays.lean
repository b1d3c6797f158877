/- FnExactCountWaysFrom: the functions. -/
import Derived.Test.YtoohpflomlhakaaKing
namespace Go.Proofs.Ytoohpflomlhakaa
open Go.RowKit Go.Sort

/-- the ways from a through all of S -/
def waysN (xs : List Int) (n : Nat) : Nat → Nat → Nat → Nat
  | 0, _, _ => 1
  | f + 1, S, a => if S = 0 then 1 else ((memN (S &&& winsN xs a) n).map fun b => waysN xs n f (less S (2 ^ b)) b).sum
theorem memN_nodup (S n : Nat) : (memN S n).Nodup := List.Pairwise.filter _ List.nodup_range
theorem memN_less (S n b : Nat) : memN (less S (2 ^ b)) n = (memN S n).filter (· != b) := by
  unfold memN
  rw [List.filter_filter]
  refine List.filter_congr fun x _ => ?_
  rw [testBit_less, Nat.testBit_two_pow, Bool.and_comm]
  congr 1
  by_cases e : b = x
  · subst e; simp
  · have : ¬ x = b := fun h => e h.symm
    simp [e, this]
theorem card_less {S n b : Nat} (h : b ∈ memN S n) : (memN (less S (2 ^ b)) n).length + 1 = (memN S n).length := by
  rw [memN_less, ← (memN_nodup S n).erase_eq_filter, List.length_erase_of_mem h]
  have := List.length_pos_of_mem h
  omega
theorem card_zero {S n : Nat} (hS : S < 2 ^ n) : (memN S n).length = 0 ↔ S = 0 := by
  constructor
  · intro h
    have h0 : memN S n = [] := List.length_eq_zero_iff.1 h
    apply Nat.eq_of_testBit_eq
    intro j
    rw [Nat.zero_testBit]
    rcases Nat.lt_or_ge j n with hj | hj
    · rcases hb : S.testBit j with _ | _
      · rfl
      · have : j ∈ memN S n := mem_memN.2 ⟨hj, hb⟩
        rw [h0] at this; cases this
    · exact Nat.testBit_lt_two_pow (Nat.lt_of_lt_of_le hS (Nat.pow_le_pow_right (by decide) hj))
  · rintro rfl
    simp [memN]
theorem sum_le {l : List Nat} {F : Nat → Nat} {B : Nat} (h : ∀ b ∈ l, F b ≤ B) : (l.map F).sum ≤ l.length * B := by
  induction l with
  | nil => simp
  | cons b l ih =>
    rw [List.map_cons, List.sum_cons, List.length_cons, Nat.succ_mul]
    have := h b (by simp)
    have := ih fun c hc => h c (by simp [hc])
    omega
theorem waysN_le (xs : List Int) (n : Nat) (hn : n ≤ 8) (f S a : Nat) (hf : (memN S n).length ≤ f) : waysN xs n f S a ≤ 8 ^ (memN S n).length := by
  induction f generalizing S a with
  | zero => simp only [waysN]; exact Nat.one_le_pow _ _ (by decide)
  | succ f ih =>
    simp only [waysN]
    split
    · exact Nat.one_le_pow _ _ (by decide)
    · have hmem : ∀ b ∈ memN (S &&& winsN xs a) n, b ∈ memN S n := fun b hb => by
        have := mem_memN.1 hb
        rw [Nat.testBit_and, Bool.and_eq_true] at this
        exact mem_memN.2 ⟨this.1, this.2.1⟩
      rcases hc : (memN S n).length with _ | c
      · have : memN (S &&& winsN xs a) n = [] := by
          rw [List.eq_nil_iff_forall_not_mem]
          intro b hb
          have := List.length_pos_of_mem (hmem b hb); omega
        rw [this]; simp
      · refine Nat.le_trans (sum_le (B := 8 ^ c) fun b hb => ?_) ?_
        · have h1 := card_less (hmem b hb)
          have := ih (less S (2 ^ b)) b (by omega)
          rwa [show (memN (less S (2 ^ b)) n).length = c by omega] at this
        · rw [Nat.pow_succ, Nat.mul_comm]
          exact Nat.mul_le_mul_left _ (Nat.le_trans (memN_len _ _) hn)
theorem sum_take {l : List Nat} {F : Nat → Nat} {k : Nat} (hk : k < l.length) : ((l.take (k + 1)).map F).sum = ((l.take k).map F).sum + F (l.getD k 0) := by
  rw [take_snocN hk, List.map_append, List.sum_append, getD_nat hk]; simp
noncomputable def waysI (s : Int) (xs : List Int) (a : Int) : Int := if (tourB s xs && inB a 0 (s - 1)) = true then (waysN xs xs.length 8 (less (2 ^ xs.length - 1) (2 ^ a.toNat)) a.toNat : Int) else -1
theorem wins_less {n S W : Nat} (hW : W < 2 ^ n) : less W (less (2 ^ n - 1) S) = S &&& W := Nat.eq_of_testBit_eq fun j => by
  rw [testBit_less, testBit_less, testBit_full, Nat.testBit_and]
  rcases Nat.lt_or_ge j n with hj | hj
  · simp only [hj, decide_true, Bool.true_and, Bool.not_not]
    rw [Bool.and_comm]
  · rw [Nat.testBit_lt_two_pow (Nat.lt_of_lt_of_le hW (Nat.pow_le_pow_right (by decide) hj))]; simp
theorem met_more {n S b : Nat} (hb : b < n) : less (2 ^ n - 1) S ||| 2 ^ b = less (2 ^ n - 1) (less S (2 ^ b)) := Nat.eq_of_testBit_eq fun j => by
  rw [Nat.testBit_or, testBit_less, testBit_less, testBit_less, testBit_full, Nat.testBit_two_pow]
  by_cases e : b = j
  · subst e; simp [hb]
  · simp [e]
theorem met_all {n S : Nat} (hS : S < 2 ^ n) : less (2 ^ n - 1) S = 2 ^ n - 1 ↔ S = 0 := by
  constructor
  · intro h
    apply Nat.eq_of_testBit_eq
    intro j
    rw [Nat.zero_testBit]
    rcases Nat.lt_or_ge j n with hj | hj
    · have := congrArg (fun x => Nat.testBit x j) h
      simp only [testBit_less, testBit_full, hj, decide_true, Bool.true_and] at this
      simpa using this
    · exact Nat.testBit_lt_two_pow (Nat.lt_of_lt_of_le hS (Nat.pow_le_pow_right (by decide) hj))
  · rintro rfl
    exact Nat.eq_of_testBit_eq fun j => by rw [testBit_less]; simp
theorem less_full_lt (n S : Nat) : less (2 ^ n - 1) S < 2 ^ n := less_lt (by have := Nat.two_pow_pos n; omega)
set_option maxHeartbeats 400000 in
theorem countWays_zero (s : Int) (sl : Value) (xs : List Int) (hp : tourP s xs) (a met : Nat) (w : World) (h : Rd w sl xs) (hm : met = 2 ^ xs.length - 1) :
    Calls Try.prog 63 #[.agg #[.int .i64 s, sl], .int .i64 a, .int .i64 met] w fun e w' => e = .returned (.int .i64 1) ∧ Below w.heap.size w w' := by
  obtain ⟨g, off, c, rfl, hmm, hg, -⟩ := tour_cells h hp
  have hs := hp.1
  have hsl := hp.2.1
  generalize hn : xs.length = n at *
  obtain rfl : s = n := by omega
  have hfull := full_nat n (by omega)
  have hq : ((met : Int) == ((2 ^ n - 1 : Nat) : Int)) = true := by rw [hm]; simp
  clear hn hp h hm
  go_enter Try.func63, Try.ntmps63
  go_wp2_with fail
  have b0 := below_alloc1 w (.cells #[.int .i64 n, .slice (some ⟨g, off, none⟩) n c] 27)
  have x0 := TBox.new w n (.slice (some ⟨g, off, none⟩) n c) 27
  generalize w.alloc (.cells #[.int .i64 n, .slice (some ⟨g, off, none⟩) n c] 27) = w0 at *
  have HX0 := Lib.hid x0
  have HB0 := Lib.hid b0
  clear x0 b0
  have y0_0 := HX0.out.1
  have y1_0 := HX0.out.2
  go_wp2
  go_ret
  exact ⟨rfl, HB0.out⟩
set_option maxHeartbeats 2000000 in
theorem countWays_any (s : Int) (sl : Value) (xs : List Int) (hp : tourP s xs) (f : Nat) : ∀ (S a met : Nat) (w : World) (_ : Rd w sl xs) (_ : a < xs.length) (_ : S < 2 ^ xs.length) (_ : (memN S xs.length).length ≤ f) (_ : met = less (2 ^ xs.length - 1) S),
    Calls Try.prog 63 #[.agg #[.int .i64 s, sl], .int .i64 a, .int .i64 met] w fun e w' => e = .returned (.int .i64 (waysN xs xs.length f S a : Nat)) ∧ Below w.heap.size w w' := by
  induction f with
  | zero =>
    intro S a met w h ha hS hf hm
    have h0 : S = 0 := (card_zero hS).1 (by omega)
    subst h0
    exact countWays_zero s sl xs hp a met w h (by rw [hm]; exact (met_all hS).2 rfl)
  | succ f ih =>
    intro S a met w h ha hS hf hm
    by_cases h0 : S = 0
    · subst h0
      have := countWays_zero s sl xs hp a met w h (by rw [hm]; exact (met_all hS).2 rfl)
      simpa [waysN] using this
    have IH := Lib.hid ih
    clear ih
    have HRD := Lib.hid h
    obtain ⟨g, off, c, rfl, hmm, hg, hx⟩ := tour_cells h hp
    unfold maxLen at hmm
    have hs := hp.1
    have hsl := hp.2.1
    have hw := (tour_wins hp (a := a) ha).2.1
    have hxa := hx a ha
    have HWN : Hid (waysN xs xs.length (f + 1) S a = ((memN (S &&& winsN xs a) xs.length).map fun b => waysN xs xs.length f (less S (2 ^ b)) b).sum) := by unfold Hid; simp [waysN, h0]
    have HMEM := Lib.hid (fun b (hb : b ∈ memN (S &&& winsN xs a) xs.length) => show b < xs.length ∧ b ∈ memN S xs.length from by
      have := mem_memN.1 hb
      rw [Nat.testBit_and, Bool.and_eq_true] at this
      exact ⟨this.1, mem_memN.2 ⟨this.1, this.2.1⟩⟩)
    have HLE := Lib.hid (fun b (hb : b ∈ memN S xs.length) => waysN_le xs xs.length (by omega) f (less S (2 ^ b)) b (by have := card_less hb; omega))
    clear hp h hx
    generalize hn : xs.length = n at *
    obtain rfl : s = n := by omega
    rw [show ((n : Int)).toNat = n from rfl] at hw
    have hn8 : n ≤ 8 := by omega
    have hp8 := pow_le hn8
    have hfull := full_nat n hn8
    have hml : met < 2 ^ n := by rw [hm]; exact less_full_lt n S
    have hne : ¬ met = 2 ^ n - 1 := by rw [hm, met_all hS]; exact h0
    have hq : ((met : Int) == ((2 ^ n - 1 : Nat) : Int)) = false := by
      have : ¬ (met : Int) = ((2 ^ n - 1 : Nat) : Int) := fun e => hne (Int.ofNat.inj e)
      simpa using this
    have hand := i64_andNot_nat (winsN xs a) met (by omega) (by omega)
    have hle : less (winsN xs a) met = S &&& winsN xs a := by rw [hm]; exact wins_less hw
    rw [hle] at hand
    have hSW : S &&& winsN xs a < 2 ^ n := Nat.and_lt_two_pow _ hw
    have HN := Lib.hid hn
    have HS := Lib.hid hS
    have HF := Lib.hid hf
    have HM := Lib.hid hm
    clear hn hle hne hm hf h0
    go_enter Try.func63, Try.ntmps63
    go_wp2_with fail
    have b0 := below_alloc1 w (.cells #[.int .i64 n, .slice (some ⟨g, off, none⟩) n c] 27)
    have x0 := TBox.new w n (.slice (some ⟨g, off, none⟩) n c) 27
    generalize w.alloc (.cells #[.int .i64 n, .slice (some ⟨g, off, none⟩) n c] 27) = w0 at *
    have HX0 := Lib.hid x0
    have HB0 := Lib.hid b0
    clear x0 b0
    have y0_0 := HX0.out.1
    have y1_0 := HX0.out.2
    have hxa := (HB0.out.cell (by exact hg)).trans hxa
    go_wp2_with fail
    refine (membersOf_any (S &&& winsN xs a) n _ hSW (by omega)).mono ?_
    rintro e w2 ⟨v, rfl, ho, hb2⟩
    obtain ⟨A, d, rfl, hd1, hd2, hl⟩ := memL_cells ho
    unfold maxLen at hd1
    have HL := Lib.hid hl
    have B2 := Lib.hid (Below.then HB0.out hb2)
    have X2 := Lib.hid (HX0.out.below hb2)
    have hm8 := memN_len (S &&& winsN xs a) n
    clear hb2 ho hl HB0 HX0 y0_0 y1_0 hxa hand hfull hq
    generalize memN (S &&& winsN xs a) n = L at *
    generalize hLn : L.length = m at *
    have HLN := Lib.hid hLn
    clear hLn
    have hcard : Hid (0 < m → 0 < (memN S n).length) := fun h => by
      have h1 : L.getD 0 0 ∈ L := by rw [getD_nat (by rw [HLN.out]; exact h)]; exact List.getElem_mem _
      exact List.length_pos_of_mem (HMEM.out _ h1).2
    go_wp2
    go_loopw [7, 25] (fun t i wr => ∃ k : Nat, k ≤ m ∧ i = .int .i64 k ∧ t = .int .i64 (((L.take k).map fun b => waysN xs n f (less S (2 ^ b)) b).sum : Nat) ∧ Below w2.heap.size w2 wr ∧ TBox wr w.heap.size n (.slice (some ⟨g, off, none⟩) n c)) (fun _ i _ => m - (intOf i).toNat)
    case atStart => exact ⟨0, by omega, rfl, by simp, Below.refl _ _, X2.out⟩
    case round =>
      obtain ⟨k, hk, rfl, rfl, hb, hxx⟩ := hrel
      have HB := Lib.hid hb
      have HX := Lib.hid hxx
      have y0_0 := hxx.1
      have y1_0 := hxx.2
      clear hb hxx
      by_cases hlt : k < m
      · have hkl : k < L.length := by rw [HLN.out]; exact hlt
        obtain ⟨g', off', rfl, hg', hz⟩ := HL.out (by omega)
        have hzk := (HB.out.cell (by exact hg')).trans (hz k hlt)
        have hbL : L.getD k 0 ∈ L := by rw [getD_nat hkl]; exact List.getElem_mem hkl
        have hbm := HMEM.out _ hbL
        have hcl := card_less hbm.2
        have hfb := HLE.out _ hbm.2
        have hcl8 := memN_len S n
        have hpow : 8 ^ (memN (less S (2 ^ (L.getD k 0))) n).length ≤ 8 ^ 7 := Nat.pow_le_pow_right (by decide) (by omega)
        have hsum : ((L.take k).map fun b => waysN xs n f (less S (2 ^ b)) b).sum ≤ 8 * 8 ^ 7 := by
          refine Nat.le_trans (sum_le (B := 8 ^ 7) fun b hb => ?_) ?_
          · have h2 := (HMEM.out b (List.mem_of_mem_take hb)).2
            have h3 := card_less h2
            exact Nat.le_trans (HLE.out b h2) (Nat.pow_le_pow_right (by decide) (by omega))
          · exact Nat.mul_le_mul_right _ (by rw [List.length_take]; omega)
        rw [show (8 : Nat) ^ 7 = 2097152 from by decide] at hpow hsum
        have HST := Lib.hid (sum_take (F := fun b => waysN xs n f (less S (2 ^ b)) b) hkl)
        have hless := less_lt (S := S) (b := 2 ^ (L.getD k 0)) HS.out
        have hmore := met_more (S := S) hbm.1
        rw [← HM.out] at hmore
        generalize L.getD k 0 = b at *
        generalize ((L.take k).map fun b => waysN xs n f (less S (2 ^ b)) b).sum = T at *
        have hor := or_shl met b (by omega) (by omega)
        have hF := HF.out
        have k1 := quiet_below (w := wr) (fun W hW => IH.out (less S (2 ^ b)) b (met ||| 2 ^ b) W (((HRD.out.below B2.out).below HB.out).below hW) hbm.1 hless (by omega) hmore)
        have hFb : Hid (waysN xs n f (less S (2 ^ b)) b ≤ 2097152) := Nat.le_trans hfb hpow
        have hFb' := hFb.out
        clear hz hfb hpow hmore hcl
        generalize waysN xs n f (less S (2 ^ b)) b = F at *
        go_wp2_with fail
        have y0_q := cell_regrown y0_0
        have y1_q := cell_regrown y1_0
        clear y0_0 y1_0
        refine wp_region_below (by kernel_rfl) (by kernel_rfl) ?_
        repeat (go_big_quiet_step (first | (with_reducible exact k1 _ _)))
        refine wpQuiet_nil ?_
        intro wq hbq0
        have hbq := Lib.hid hbq0
        clear hbq0
        clear y0_q y1_q
        go_wp2
        go_roundw
        case rel => exact ⟨k + 1, by omega, by go_num, by rw [HST.out]; go_num, Below.then HB.out hbq.out, HX.out.below hbq.out⟩
        case measure => simp [intOf]; omega
      · obtain rfl : k = m := by omega
        rw [show L.take k = L from List.take_of_length_le (by rw [HLN.out]; exact Nat.le_refl _)]
        go_wp2
        go_ret
        exact ⟨ret_int (by rw [HWN.out]), Below.then B2.out HB.out⟩
theorem sub_shl (U a : Nat) (hU : U < 256) (ha : a < 8) (h : U.testBit a = true) : wrap64 ((U : Int) - wrap64 (2 ^ a)) = ((less U (2 ^ a) : Nat) : Int) := by
  have h2 := sub_less (S := U) (a := a) (Nat.lt_trans hU (by decide)) (by omega) h
  have h3 : 2 ^ a ≤ U := Nat.ge_two_pow_of_testBit h
  have h5 : U - 2 ^ a < 9223372036854775808 := Nat.lt_of_le_of_lt (Nat.sub_le _ _) (by omega)
  rw [shl_nat a (by omega), ← h2, ← Int.natCast_sub h3]
  exact wrap64_nat _ h5
set_option maxHeartbeats 400000 in
theorem l06Count_zero (s : Int) (sl : Value) (xs : List Int) (hp : tourP s xs) (U a : Nat) (w : World) (h : Rd w sl xs) (ha : a < xs.length) (hU : U < 2 ^ xs.length) (hUa : U.testBit a = true) (h0 : less U (2 ^ a) = 0) :
    Calls Try.prog 61 #[.agg #[.int .i64 s, sl], .int .i64 U, .int .i64 a] w fun e w' => e = .returned (.int .i64 1) ∧ Below w.heap.size w w' := by
  obtain ⟨g, off, c, rfl, hmm, hg, -⟩ := tour_cells h hp
  have hs := hp.1
  have hsl := hp.2.1
  have hsub := sub_shl U a (Nat.lt_of_lt_of_le hU (pow_le (by omega))) (by omega) hUa
  rw [h0] at hsub
  generalize hn : xs.length = n at *
  obtain rfl : s = n := by omega
  clear hn hp h h0 hUa
  go_enter Try.func61, Try.ntmps61
  go_wp2_with fail
  have b0 := below_alloc1 w (.cells #[.int .i64 n, .slice (some ⟨g, off, none⟩) n c] 27)
  have x0 := TBox.new w n (.slice (some ⟨g, off, none⟩) n c) 27
  generalize w.alloc (.cells #[.int .i64 n, .slice (some ⟨g, off, none⟩) n c] 27) = w0 at *
  have HX0 := Lib.hid x0
  have HB0 := Lib.hid b0
  clear x0 b0
  have y0_0 := HX0.out.1
  have y1_0 := HX0.out.2
  go_wp2
  go_ret
  exact ⟨rfl, HB0.out⟩
set_option maxHeartbeats 2000000 in
theorem l06Count_any (s : Int) (sl : Value) (xs : List Int) (hp : tourP s xs) (f : Nat) : ∀ (U a : Nat) (w : World) (_ : Rd w sl xs) (_ : a < xs.length) (_ : U < 2 ^ xs.length) (_ : U.testBit a = true) (_ : (memN (less U (2 ^ a)) xs.length).length ≤ f),
    Calls Try.prog 61 #[.agg #[.int .i64 s, sl], .int .i64 U, .int .i64 a] w fun e w' => e = .returned (.int .i64 (waysN xs xs.length f (less U (2 ^ a)) a : Nat)) ∧ Below w.heap.size w w' := by
  induction f with
  | zero =>
    intro U a w h ha hU hUa hf
    have h0 : less U (2 ^ a) = 0 := (card_zero (less_lt hU)).1 (by omega)
    have := l06Count_zero s sl xs hp U a w h ha hU hUa h0
    simpa [waysN] using this
  | succ f ih =>
    intro U a w h ha hU hUa hf
    by_cases h0 : less U (2 ^ a) = 0
    · have := l06Count_zero s sl xs hp U a w h ha hU hUa h0
      simpa [waysN, h0] using this
    have IH := Lib.hid ih
    clear ih
    have hS : less U (2 ^ a) < 2 ^ xs.length := less_lt hU
    have hsub := sub_shl U a (Nat.lt_of_lt_of_le hU (pow_le (by have := hp.1; have := hp.2.1; omega))) (by have := hp.1; have := hp.2.1; omega) hUa
    generalize hSU : less U (2 ^ a) = S at *
    clear hSU hUa
    have HRD := Lib.hid h
    obtain ⟨g, off, c, rfl, hmm, hg, hx⟩ := tour_cells h hp
    unfold maxLen at hmm
    have hs := hp.1
    have hsl := hp.2.1
    have hw := (tour_wins hp (a := a) ha).2.1
    have hxa := hx a ha
    have HWN : Hid (waysN xs xs.length (f + 1) S a = ((memN (S &&& winsN xs a) xs.length).map fun b => waysN xs xs.length f (less S (2 ^ b)) b).sum) := by unfold Hid; simp [waysN, h0]
    have HMEM := Lib.hid (fun b (hb : b ∈ memN (S &&& winsN xs a) xs.length) => show b < xs.length ∧ b ∈ memN S xs.length from by
      have := mem_memN.1 hb
      rw [Nat.testBit_and, Bool.and_eq_true] at this
      exact ⟨this.1, mem_memN.2 ⟨this.1, this.2.1⟩⟩)
    have HLE := Lib.hid (fun b (hb : b ∈ memN S xs.length) => waysN_le xs xs.length (by omega) f (less S (2 ^ b)) b (by have := card_less hb; omega))
    clear hp h hx
    generalize hn : xs.length = n at *
    obtain rfl : s = n := by omega
    rw [show ((n : Int)).toNat = n from rfl] at hw
    have hn8 : n ≤ 8 := by omega
    have hp8 := pow_le hn8
    have hq : ((S : Int) == 0) = false := by simp; omega
    have hand := i64_and_nat S (winsN xs a) (by omega) (by omega)
    have hSW : S &&& winsN xs a < 2 ^ n := Nat.and_lt_two_pow _ hw
    have HN := Lib.hid hn
    have HS := Lib.hid hS
    have HF := Lib.hid hf
    clear hn hf h0
    go_enter Try.func61, Try.ntmps61
    go_wp2_with fail
    have b0 := below_alloc1 w (.cells #[.int .i64 n, .slice (some ⟨g, off, none⟩) n c] 27)
    have x0 := TBox.new w n (.slice (some ⟨g, off, none⟩) n c) 27
    generalize w.alloc (.cells #[.int .i64 n, .slice (some ⟨g, off, none⟩) n c] 27) = w0 at *
    have HX0 := Lib.hid x0
    have HB0 := Lib.hid b0
    clear x0 b0
    have y0_0 := HX0.out.1
    have y1_0 := HX0.out.2
    have hxa := (HB0.out.cell (by exact hg)).trans hxa
    go_wp2_with fail
    refine (l02List_any (S &&& winsN xs a) n _ hSW (by omega)).mono ?_
    rintro e w2 ⟨v, rfl, ho, hb2⟩
    obtain ⟨A, d, rfl, hd1, hd2, hl⟩ := memL_cells ho
    unfold maxLen at hd1
    have HL := Lib.hid hl
    have B2 := Lib.hid (Below.then HB0.out hb2)
    have X2 := Lib.hid (HX0.out.below hb2)
    have hm8 := memN_len (S &&& winsN xs a) n
    clear hb2 ho hl HB0 HX0 y0_0 y1_0 hxa hand hq hsub
    generalize memN (S &&& winsN xs a) n = L at *
    generalize hLn : L.length = m at *
    have HLN := Lib.hid hLn
    clear hLn
    have hcard : Hid (0 < m → 0 < (memN S n).length) := fun h => by
      have h1 : L.getD 0 0 ∈ L := by rw [getD_nat (by rw [HLN.out]; exact h)]; exact List.getElem_mem _
      exact List.length_pos_of_mem (HMEM.out _ h1).2
    go_wp2
    go_loopw [8, 26] (fun t i wr => ∃ k : Nat, k ≤ m ∧ i = .int .i64 k ∧ t = .int .i64 (((L.take k).map fun b => waysN xs n f (less S (2 ^ b)) b).sum : Nat) ∧ Below w2.heap.size w2 wr ∧ TBox wr w.heap.size n (.slice (some ⟨g, off, none⟩) n c)) (fun _ i _ => m - (intOf i).toNat)
    case atStart => exact ⟨0, by omega, rfl, by simp, Below.refl _ _, X2.out⟩
    case round =>
      obtain ⟨k, hk, rfl, rfl, hb, hxx⟩ := hrel
      have HB := Lib.hid hb
      have HX := Lib.hid hxx
      have y0_0 := hxx.1
      have y1_0 := hxx.2
      clear hb hxx
      by_cases hlt : k < m
      · have hkl : k < L.length := by rw [HLN.out]; exact hlt
        obtain ⟨g', off', rfl, hg', hz⟩ := HL.out (by omega)
        have hzk := (HB.out.cell (by exact hg')).trans (hz k hlt)
        have hbL : L.getD k 0 ∈ L := by rw [getD_nat hkl]; exact List.getElem_mem hkl
        have hbm := HMEM.out _ hbL
        have hcl := card_less hbm.2
        have hfb := HLE.out _ hbm.2
        have hcl8 := memN_len S n
        have hpow : 8 ^ (memN (less S (2 ^ (L.getD k 0))) n).length ≤ 8 ^ 7 := Nat.pow_le_pow_right (by decide) (by omega)
        have hsum : ((L.take k).map fun b => waysN xs n f (less S (2 ^ b)) b).sum ≤ 8 * 8 ^ 7 := by
          refine Nat.le_trans (sum_le (B := 8 ^ 7) fun b hb => ?_) ?_
          · have h2 := (HMEM.out b (List.mem_of_mem_take hb)).2
            have h3 := card_less h2
            exact Nat.le_trans (HLE.out b h2) (Nat.pow_le_pow_right (by decide) (by omega))
          · exact Nat.mul_le_mul_right _ (by rw [List.length_take]; omega)
        rw [show (8 : Nat) ^ 7 = 2097152 from by decide] at hpow hsum
        have HST := Lib.hid (sum_take (F := fun b => waysN xs n f (less S (2 ^ b)) b) hkl)
        have hless := less_lt (S := S) (b := 2 ^ (L.getD k 0)) HS.out
        have hbS := (mem_memN.1 hbm.2).2
        generalize L.getD k 0 = b at *
        generalize ((L.take k).map fun b => waysN xs n f (less S (2 ^ b)) b).sum = T at *
        have hF := HF.out
        have HC := Lib.hid (IH.out S b wr ((HRD.out.below B2.out).below HB.out) hbm.1 HS.out hbS (by omega))
        have hFb : Hid (waysN xs n f (less S (2 ^ b)) b ≤ 2097152) := Nat.le_trans hfb hpow
        have hFb' := hFb.out
        clear hz hfb hpow hcl
        generalize waysN xs n f (less S (2 ^ b)) b = F at *
        go_wp2_with fail
        refine (HC.out).mono ?_
        rintro e w5 ⟨rfl, hb5⟩
        have HB5 := Lib.hid (Below.then HB.out hb5)
        have HX5 := Lib.hid (HX.out.below hb5)
        clear hb5
        go_wp2
        go_roundw
        case rel => exact ⟨k + 1, by omega, by go_num, by rw [HST.out]; go_num, HB5.out, HX5.out⟩
        case measure => simp [intOf]; omega
      · obtain rfl : k = m := by omega
        rw [show L.take k = L from List.take_of_length_le (by rw [HLN.out]; exact Nat.le_refl _)]
        go_wp2
        go_ret
        exact ⟨ret_int (by rw [HWN.out]), Below.then B2.out HB.out⟩
theorem less_less {n a : Nat} (h : a < n) : 2 ^ a = less (2 ^ n - 1) (less (2 ^ n - 1) (2 ^ a)) := Nat.eq_of_testBit_eq fun j => by
  rw [testBit_less, testBit_less, testBit_full, Nat.testBit_two_pow]
  by_cases e : a = j
  · subst e; simp [h]
  · simp [e]
set_option maxHeartbeats 1000000 in
theorem implCountWays (s : Int) (sl : Value) (xs : List Int) (a : Int) (w : World) (h : Rd w sl xs) :
    Calls Try.prog 31 #[.agg #[.int .i64 s, sl], .int .i64 a] w fun e w' => e = .returned (.int .i64 (waysI s xs a)) ∧ Below w.heap.size w w' := by
  have HR := Lib.hid h
  obtain ⟨A, c, rfl, -, -, -⟩ := h
  rcases q0 : tourB s xs with _ | _
  case false =>
    go_enter Try.func31, Try.ntmps31
    go_wp2_with fail
    have b0 := below_alloc1 w (.cells #[.int .i64 s, .slice A xs.length c] 27)
    have x0 := TBox.new w s (.slice A xs.length c) 27
    generalize w.alloc (.cells #[.int .i64 s, .slice A xs.length c] 27) = w0 at *
    have HX0 := Lib.hid x0
    have HB0 := Lib.hid b0
    clear x0 b0
    have y0_0 := HX0.out.1
    have y1_0 := HX0.out.2
    go_wp2_with fail
    refine (implTourOk s _ xs _ (HR.out.below HB0.out)).mono ?_
    rintro e w1 ⟨rfl, hb⟩
    have HX1 := Lib.hid (HX0.out.below hb)
    have HB1 := Lib.hid (Below.then HB0.out hb)
    clear hb HX0 HB0 y0_0 y1_0
    have y0_1 := HX1.out.1
    have y1_1 := HX1.out.2
    rw [q0]
    go_wp2
    go_ret
    exact ⟨ret_int (by simp [waysI, *]), HB1.out⟩
  have hp := tourB_true.1 q0
  have hs := hp.1
  have hl := hp.2.1
  rcases q1 : inB a 0 (s - 1) with _ | _
  case false =>
    go_enter Try.func31, Try.ntmps31
    go_wp2_with fail
    have b0 := below_alloc1 w (.cells #[.int .i64 s, .slice A xs.length c] 27)
    have x0 := TBox.new w s (.slice A xs.length c) 27
    generalize w.alloc (.cells #[.int .i64 s, .slice A xs.length c] 27) = w0 at *
    have HX0 := Lib.hid x0
    have HB0 := Lib.hid b0
    clear x0 b0
    have y0_0 := HX0.out.1
    have y1_0 := HX0.out.2
    go_wp2_with fail
    refine (implTourOk s _ xs _ (HR.out.below HB0.out)).mono ?_
    rintro e w1 ⟨rfl, hb⟩
    have HX1 := Lib.hid (HX0.out.below hb)
    have HB1 := Lib.hid (Below.then HB0.out hb)
    clear hb HX0 HB0 y0_0 y1_0
    have y0_1 := HX1.out.1
    have y1_1 := HX1.out.2
    rw [q0]
    go_wp2_with fail
    refine (has_any s (.slice A xs.length c) a _ (by omega)).mono ?_
    rintro e w2 ⟨rfl, hb⟩
    have HX2 := Lib.hid (HX1.out.below hb)
    have HB2 := Lib.hid (Below.then HB1.out hb)
    clear hb HX1 HB1 y0_1 y1_1
    have y0_2 := HX2.out.1
    have y1_2 := HX2.out.2
    rw [q1]
    go_wp2
    go_ret
    exact ⟨ret_int (by simp [waysI, *]), HB2.out⟩
  have ha := inB_true.1 q1
  go_enter Try.func31, Try.ntmps31
  go_wp2_with fail
  have b0 := below_alloc1 w (.cells #[.int .i64 s, .slice A xs.length c] 27)
  have x0 := TBox.new w s (.slice A xs.length c) 27
  generalize w.alloc (.cells #[.int .i64 s, .slice A xs.length c] 27) = w0 at *
  have HX0 := Lib.hid x0
  have HB0 := Lib.hid b0
  clear x0 b0
  have y0_0 := HX0.out.1
  have y1_0 := HX0.out.2
  go_wp2_with fail
  refine (implTourOk s _ xs _ (HR.out.below HB0.out)).mono ?_
  rintro e w1 ⟨rfl, hb⟩
  have HX1 := Lib.hid (HX0.out.below hb)
  have HB1 := Lib.hid (Below.then HB0.out hb)
  clear hb HX0 HB0 y0_0 y1_0
  have y0_1 := HX1.out.1
  have y1_1 := HX1.out.2
  rw [q0]
  go_wp2_with fail
  refine (has_any s (.slice A xs.length c) a _ (by omega)).mono ?_
  rintro e w2 ⟨rfl, hb⟩
  have HX2 := Lib.hid (HX1.out.below hb)
  have HB2 := Lib.hid (Below.then HB1.out hb)
  clear hb HX1 HB1 y0_1 y1_1
  have y0_2 := HX2.out.1
  have y1_2 := HX2.out.2
  rw [q1]
  have hF : Hid (waysI s xs a = waysN xs xs.length 8 (less (2 ^ xs.length - 1) (2 ^ a.toNat)) a.toNat) := by unfold Hid; simp [waysI, q0, q1]
  obtain ⟨n, rfl⟩ := Int.eq_ofNat_of_zero_le ha.1
  rw [show ((n : Int)).toNat = n from rfl] at hF
  have hn : n < xs.length := by omega
  have h8 := memN_len (less (2 ^ xs.length - 1) (2 ^ n)) xs.length
  have hshl := shl_nat n (by omega)
  have k1 := quiet_below (w := w2) (fun W hW => countWays_any s _ xs hp 8 (less (2 ^ xs.length - 1) (2 ^ n)) n (2 ^ n) W ((HR.out.below HB2.out).below hW) hn (less_full_lt _ _) (by omega) (less_less hn))
  rw [← hshl] at k1
  clear hp hshl
  have y0_0 := y0_2
  have y1_0 := y1_2
  go_wp2_with fail
  have y0_q := cell_regrown y0_0
  have y1_q := cell_regrown y1_0
  clear y0_0 y1_0
  refine wp_region_below (by kernel_rfl) (by kernel_rfl) ?_
  repeat (go_big_quiet_step (first | (with_reducible exact k1 _ _)))
  refine wpQuiet_nil ?_
  intro wq hbq0
  have hbq := Lib.hid hbq0
  clear hbq0
  clear y0_q y1_q
  go_wp2
  go_ret
  exact ⟨ret_int hF.out.symm, Below.then HB2.out hbq.out⟩
set_option maxHeartbeats 1000000 in
theorem specCountWays (s : Int) (sl : Value) (xs : List Int) (a : Int) (w : World) (h : Rd w sl xs) :
    Calls Try.prog 30 #[.agg #[.int .i64 s, sl], .int .i64 a] w fun e w' => e = .returned (.int .i64 (waysI s xs a)) ∧ Below w.heap.size w w' := by
  have HR := Lib.hid h
  obtain ⟨A, c, rfl, -, -, -⟩ := h
  rcases q0 : (tourB s xs && inB a 0 (s - 1)) with _ | _
  case false =>
    go_enter Try.func30, Try.ntmps30
    go_wp2_with fail
    have b0 := below_alloc1 w (.cells #[.int .i64 s, .slice A xs.length c] 27)
    have x0 := TBox.new w s (.slice A xs.length c) 27
    generalize w.alloc (.cells #[.int .i64 s, .slice A xs.length c] 27) = w0 at *
    have HX0 := Lib.hid x0
    have HB0 := Lib.hid b0
    clear x0 b0
    have y0_0 := HX0.out.1
    have y1_0 := HX0.out.2
    go_wp2_with fail
    refine (l02Player_any s _ xs a _ (HR.out.below HB0.out)).mono ?_
    rintro e w1 ⟨rfl, hb⟩
    have HX1 := Lib.hid (HX0.out.below hb)
    have HB1 := Lib.hid (Below.then HB0.out hb)
    clear hb HX0 HB0 y0_0 y1_0
    have y0_1 := HX1.out.1
    have y1_1 := HX1.out.2
    rw [q0]
    go_wp2
    go_ret
    exact ⟨ret_int (by simp [waysI, q0]), HB1.out⟩
  have q0' := q0
  rw [Bool.and_eq_true] at q0'
  have hp := tourB_true.1 q0'.1
  have hs := hp.1
  have hl := hp.2.1
  have ha := inB_true.1 q0'.2
  go_enter Try.func30, Try.ntmps30
  go_wp2_with fail
  have b0 := below_alloc1 w (.cells #[.int .i64 s, .slice A xs.length c] 27)
  have x0 := TBox.new w s (.slice A xs.length c) 27
  generalize w.alloc (.cells #[.int .i64 s, .slice A xs.length c] 27) = w0 at *
  have HX0 := Lib.hid x0
  have HB0 := Lib.hid b0
  clear x0 b0
  have y0_0 := HX0.out.1
  have y1_0 := HX0.out.2
  go_wp2_with fail
  refine (l02Player_any s _ xs a _ (HR.out.below HB0.out)).mono ?_
  rintro e w1 ⟨rfl, hb⟩
  have HX1 := Lib.hid (HX0.out.below hb)
  have HB1 := Lib.hid (Below.then HB0.out hb)
  clear hb HX0 HB0 y0_0 y1_0
  have y0_1 := HX1.out.1
  have y1_1 := HX1.out.2
  rw [q0]
  have hF : Hid (waysI s xs a = waysN xs xs.length 8 (less (2 ^ xs.length - 1) (2 ^ a.toNat)) a.toNat) := by unfold Hid; simp [waysI, q0']
  obtain ⟨n, rfl⟩ := Int.eq_ofNat_of_zero_le ha.1
  rw [show ((n : Int)).toNat = n from rfl] at hF
  have hn : n < xs.length := by omega
  have h8 := memN_len (less (2 ^ xs.length - 1) (2 ^ n)) xs.length
  have k1 := quiet_below (w := w1) (fun W hW => l06Count_any s (.slice A xs.length c) xs hp 8 (2 ^ xs.length - 1) n W ((HR.out.below HB1.out).below hW) hn (by have := Nat.two_pow_pos xs.length; omega) (by rw [testBit_full]; simp [hn]) (by omega))
  have k2 := quiet_below (w := w1) (fun W _ => l02All_any xs.length (.slice A xs.length c) W (by omega))
  rw [hl] at k2
  clear hp
  have y0_0 := y0_1
  have y1_0 := y1_1
  go_wp2_with fail
  have y0_q := cell_regrown y0_0
  have y1_q := cell_regrown y1_0
  clear y0_0 y1_0
  refine wp_region_below (by kernel_rfl) (by kernel_rfl) ?_
  repeat (go_big_quiet_step (first | (with_reducible exact k1 _ _) | (with_reducible exact k2 _ _)))
  refine wpQuiet_nil ?_
  intro wq hbq0
  have hbq := Lib.hid hbq0
  clear hbq0
  clear y0_q y1_q
  go_wp2
  go_ret
  exact ⟨ret_int hF.out.symm, Below.then HB1.out hbq.out⟩
end Go.Proofs.Ytoohpflomlhakaa
