/- Texts put together: SumN, Ways, Reach, Climb, TrP. -/
import Derived.Test.YtbkiedhaacapbaaGreatMTop01
import Derived.Test.YtbkiedhaacapbaaGreatMTop02
import Derived.Test.YtbkiedhaacapbaaGreatMTop05
namespace Go.Proofs.YtbkiedhaacapbaaGreat
set_option maxRecDepth 100000
/-- a sum over the first n -/
def sumN (f : Nat → Int) : Nat → Int
  | 0 => 0
  | n + 1 => sumN f n + f n
theorem sumN_congr {f g : Nat → Int} {n : Nat} (h : ∀ k, k < n → f k = g k) : sumN f n = sumN g n := by
  induction n with
  | zero => rfl
  | succ n ih => rw [sumN, sumN, ih fun k hk => h k (by omega), h n (by omega)]
theorem sumN_add (f g : Nat → Int) (n : Nat) : sumN (fun k => f k + g k) n = sumN f n + sumN g n := by
  induction n with
  | zero => rfl
  | succ n ih => rw [sumN, sumN, sumN, ih]; omega
theorem sumN_zero (n : Nat) : sumN (fun _ => 0) n = 0 := by
  induction n with
  | zero => rfl
  | succ n ih => rw [sumN, ih]; rfl
theorem sumN_const (c : Int) (n : Nat) : sumN (fun _ => c) n = n * c := by
  induction n with
  | zero => simp [sumN]
  | succ n ih => rw [sumN, ih]; push_cast; rw [Int.add_mul, Int.one_mul]
/-- one place alone -/
theorem sumN_one {f : Nat → Int} {n a : Nat} (ha : a < n) (h : ∀ k, k < n → k ≠ a → f k = 0) : sumN f n = f a := by
  induction n with
  | zero => omega
  | succ n ih =>
    rw [sumN]
    by_cases e : a = n
    · subst e
      rw [sumN_congr (g := fun _ => 0) fun k hk => h k (by omega) (by omega), sumN_zero]; omega
    · rw [ih (by omega) fun k hk => h k (by omega), h n (by omega) (by omega)]; omega
theorem sumN_two {f : Nat → Int} {n a b : Nat} (ha : a < n) (hb : b < n) (hab : a ≠ b) (h : ∀ k, k < n → k ≠ a → k ≠ b → f k = 0) : sumN f n = f a + f b := by
  have e : sumN f n = sumN (fun k => (if k = a then f a else 0) + (if k = b then f b else 0)) n := by
    refine sumN_congr fun k hk => ?_
    by_cases h1 : k = a
    · subst h1; rw [if_pos rfl, if_neg hab]; omega
    · by_cases h2 : k = b
      · subst h2; rw [if_neg h1, if_pos rfl]; omega
      · rw [if_neg h1, if_neg h2, h k hk h1 h2]; rfl
  rw [e, sumN_add, sumN_one ha (fun k _ hk => if_neg hk), sumN_one hb (fun k _ hk => if_neg hk), if_pos rfl, if_pos rfl]
theorem sumN_sub (f g : Nat → Int) (n : Nat) : sumN (fun k => f k - g k) n = sumN f n - sumN g n := by
  induction n with
  | zero => rfl
  | succ n ih => rw [sumN, sumN, sumN, ih]; omega
theorem sumN_zero' {f : Nat → Int} {n : Nat} (h : ∀ k, k < n → f k = 0) : sumN f n = 0 := (sumN_congr h).trans (sumN_zero n)
theorem sumN_mul (c : Int) (f : Nat → Int) (n : Nat) : sumN (fun k => c * f k) n = c * sumN f n := by
  induction n with
  | zero => simp [sumN]
  | succ n ih => rw [sumN, sumN, ih, Int.mul_add]
theorem sumN_swap (f : Nat → Nat → Int) (n m : Nat) : sumN (fun a => sumN (fun b => f a b) n) m = sumN (fun b => sumN (fun a => f a b) m) n := by
  induction m with
  | zero => simp only [sumN]; exact (sumN_zero n).symm
  | succ m ih => rw [sumN, ih, ← sumN_add]; exact sumN_congr fun k _ => rfl
theorem sumN_nonneg {f : Nat → Int} {n : Nat} (h : ∀ k, k < n → 0 ≤ f k) : 0 ≤ sumN f n := by
  induction n with
  | zero => exact Int.le_refl 0
  | succ n ih => have := ih fun k hk => h k (by omega); have := h n (by omega); rw [sumN]; omega
theorem sumN_le {f : Nat → Int} {n : Nat} {B : Int} (h : ∀ k, k < n → f k ≤ B) : sumN f n ≤ B * n := by
  induction n with
  | zero => simp [sumN]
  | succ n ih =>
    have h1 := ih fun k hk => h k (by omega)
    have h2 := h n (by omega)
    rw [sumN]; push_cast; rw [Int.mul_add]; omega
theorem list_sumN (l : List Int) : l.sum = sumN (fun k => l.getD k 0) l.length := by
  induction l with
  | nil => rfl
  | cons x l ih =>
    have : ∀ n, sumN (fun k => (x :: l).getD k 0) (n + 1) = x + sumN (fun k => l.getD k 0) n := fun n => by
      induction n with
      | zero => simp [sumN]
      | succ n ihn => rw [sumN, ihn, sumN]; simp; omega
    rw [List.sum_cons, ih, List.length_cons, this]
theorem map_sumN (f : Nat → Int) (n : Nat) : ((List.range n).map f).sum = sumN f n := by
  induction n with
  | zero => rfl
  | succ n ih => rw [List.range_succ, List.map_append, List.sum_append, ih, sumN]; simp
end Go.Proofs.YtbkiedhaacapbaaGreat

namespace Go.Proofs.YtbkiedhaacapbaaGreat
open Go.RowKit Go.Sort

/-- the ways from a through all of S -/
def waysN (xs : List Int) (n : Nat) : Nat → Nat → Nat → Nat
  | 0, _, _ => 1
  | f + 1, S, a => if S = 0 then 1 else ((memN (S &&& winsN xs a) n).map fun b => waysN xs n f (less S (2 ^ b)) b).sum
theorem memN_nodup (S n : Nat) : (memN S n).Nodup := List.Pairwise.filter _ List.nodup_range
theorem memN_less (S n b : Nat) : memN (less S (2 ^ b)) n = (memN S n).filter (· != b) := by
  unfold memN
  rw [List.filter_filter]
  refine List.filter_congr fun x _ => ?_
  rw [testBit_less, Nat.testBit_two_pow, Bool.and_comm]
  congr 1
  by_cases e : b = x
  · subst e; simp
  · have : ¬ x = b := fun h => e h.symm
    simp [e, this]
theorem card_less {S n b : Nat} (h : b ∈ memN S n) : (memN (less S (2 ^ b)) n).length + 1 = (memN S n).length := by
  rw [memN_less, ← (memN_nodup S n).erase_eq_filter, List.length_erase_of_mem h]
  have := List.length_pos_of_mem h
  omega
theorem card_zero {S n : Nat} (hS : S < 2 ^ n) : (memN S n).length = 0 ↔ S = 0 := by
  constructor
  · intro h
    have h0 : memN S n = [] := List.length_eq_zero_iff.1 h
    apply Nat.eq_of_testBit_eq
    intro j
    rw [Nat.zero_testBit]
    rcases Nat.lt_or_ge j n with hj | hj
    · rcases hb : S.testBit j with _ | _
      · rfl
      · have : j ∈ memN S n := mem_memN.2 ⟨hj, hb⟩
        rw [h0] at this; cases this
    · exact Nat.testBit_lt_two_pow (Nat.lt_of_lt_of_le hS (Nat.pow_le_pow_right (by decide) hj))
  · rintro rfl
    simp [memN]
theorem sum_le {l : List Nat} {F : Nat → Nat} {B : Nat} (h : ∀ b ∈ l, F b ≤ B) : (l.map F).sum ≤ l.length * B := by
  induction l with
  | nil => simp
  | cons b l ih =>
    rw [List.map_cons, List.sum_cons, List.length_cons, Nat.succ_mul]
    have := h b (by simp)
    have := ih fun c hc => h c (by simp [hc])
    omega
theorem waysN_le (xs : List Int) (n : Nat) (hn : n ≤ 8) (f S a : Nat) (hf : (memN S n).length ≤ f) : waysN xs n f S a ≤ 8 ^ (memN S n).length := by
  induction f generalizing S a with
  | zero => simp only [waysN]; exact Nat.one_le_pow _ _ (by decide)
  | succ f ih =>
    simp only [waysN]
    split
    · exact Nat.one_le_pow _ _ (by decide)
    · have hmem : ∀ b ∈ memN (S &&& winsN xs a) n, b ∈ memN S n := fun b hb => by
        have := mem_memN.1 hb
        rw [Nat.testBit_and, Bool.and_eq_true] at this
        exact mem_memN.2 ⟨this.1, this.2.1⟩
      rcases hc : (memN S n).length with _ | c
      · have : memN (S &&& winsN xs a) n = [] := by
          rw [List.eq_nil_iff_forall_not_mem]
          intro b hb
          have := List.length_pos_of_mem (hmem b hb); omega
        rw [this]; simp
      · refine Nat.le_trans (sum_le (B := 8 ^ c) fun b hb => ?_) ?_
        · have h1 := card_less (hmem b hb)
          have := ih (less S (2 ^ b)) b (by omega)
          rwa [show (memN (less S (2 ^ b)) n).length = c by omega] at this
        · rw [Nat.pow_succ, Nat.mul_comm]
          exact Nat.mul_le_mul_left _ (Nat.le_trans (memN_len _ _) hn)
theorem sum_take {l : List Nat} {F : Nat → Nat} {k : Nat} (hk : k < l.length) : ((l.take (k + 1)).map F).sum = ((l.take k).map F).sum + F (l.getD k 0) := by
  rw [take_snocN hk, List.map_append, List.sum_append, getD_nat hk]; simp
noncomputable def waysI (s : Int) (xs : List Int) (a : Int) : Int := if (tourB s xs && inB a 0 (s - 1)) = true then (waysN xs xs.length 8 (less (2 ^ xs.length - 1) (2 ^ a.toNat)) a.toNat : Int) else -1
theorem wins_less {n S W : Nat} (hW : W < 2 ^ n) : less W (less (2 ^ n - 1) S) = S &&& W := Nat.eq_of_testBit_eq fun j => by
  rw [testBit_less, testBit_less, testBit_full, Nat.testBit_and]
  rcases Nat.lt_or_ge j n with hj | hj
  · simp only [hj, decide_true, Bool.true_and, Bool.not_not]
    rw [Bool.and_comm]
  · rw [Nat.testBit_lt_two_pow (Nat.lt_of_lt_of_le hW (Nat.pow_le_pow_right (by decide) hj))]; simp
theorem met_more {n S b : Nat} (hb : b < n) : less (2 ^ n - 1) S ||| 2 ^ b = less (2 ^ n - 1) (less S (2 ^ b)) := Nat.eq_of_testBit_eq fun j => by
  rw [Nat.testBit_or, testBit_less, testBit_less, testBit_less, testBit_full, Nat.testBit_two_pow]
  by_cases e : b = j
  · subst e; simp [hb]
  · simp [e]
theorem met_all {n S : Nat} (hS : S < 2 ^ n) : less (2 ^ n - 1) S = 2 ^ n - 1 ↔ S = 0 := by
  constructor
  · intro h
    apply Nat.eq_of_testBit_eq
    intro j
    rw [Nat.zero_testBit]
    rcases Nat.lt_or_ge j n with hj | hj
    · have := congrArg (fun x => Nat.testBit x j) h
      simp only [testBit_less, testBit_full, hj, decide_true, Bool.true_and] at this
      simpa using this
    · exact Nat.testBit_lt_two_pow (Nat.lt_of_lt_of_le hS (Nat.pow_le_pow_right (by decide) hj))
  · rintro rfl
    exact Nat.eq_of_testBit_eq fun j => by rw [testBit_less]; simp
theorem less_full_lt (n S : Nat) : less (2 ^ n - 1) S < 2 ^ n := less_lt (by have := Nat.two_pow_pos n; omega)
set_option maxHeartbeats 400000 in
theorem countWays_zero (s : Int) (sl : Value) (xs : List Int) (hp : tourP s xs) (a met : Nat) (w : World) (h : Rd w sl xs) (hm : met = 2 ^ xs.length - 1) :
    Calls Tryz.prog 34 #[.agg #[.int .i64 s, sl], .int .i64 a, .int .i64 met] w fun e w' => e = .returned (.int .i64 1) ∧ Below w.heap.size w w' := by
  obtain ⟨g, off, c, rfl, hmm, hg, -⟩ := tour_cells h hp
  have hs := hp.1
  have hsl := hp.2.1
  generalize hn : xs.length = n at *
  obtain rfl : s = n := by omega
  have hfull := full_nat n (by omega)
  have hq : ((met : Int) == ((2 ^ n - 1 : Nat) : Int)) = true := by rw [hm]; simp
  clear hn hp h hm
  go_enter Tryz.func34, Tryz.ntmps34
  go_wp2_with fail
  have b0 := below_alloc1 w (.cells #[.int .i64 n, .slice (some ⟨g, off, none⟩) n c] 25)
  have x0 := TBox.new w n (.slice (some ⟨g, off, none⟩) n c) 25
  generalize w.alloc (.cells #[.int .i64 n, .slice (some ⟨g, off, none⟩) n c] 25) = w0 at *
  have HX0 := Lib.hid x0
  have HB0 := Lib.hid b0
  clear x0 b0
  have y0_0 := HX0.out.1
  have y1_0 := HX0.out.2
  go_wp2
  go_ret
  exact ⟨rfl, HB0.out⟩
set_option maxHeartbeats 2000000 in
theorem countWays_any (s : Int) (sl : Value) (xs : List Int) (hp : tourP s xs) (f : Nat) : ∀ (S a met : Nat) (w : World) (_ : Rd w sl xs) (_ : a < xs.length) (_ : S < 2 ^ xs.length) (_ : (memN S xs.length).length ≤ f) (_ : met = less (2 ^ xs.length - 1) S),
    Calls Tryz.prog 34 #[.agg #[.int .i64 s, sl], .int .i64 a, .int .i64 met] w fun e w' => e = .returned (.int .i64 (waysN xs xs.length f S a : Nat)) ∧ Below w.heap.size w w' := by
  induction f with
  | zero =>
    intro S a met w h ha hS hf hm
    have h0 : S = 0 := (card_zero hS).1 (by omega)
    subst h0
    exact countWays_zero s sl xs hp a met w h (by rw [hm]; exact (met_all hS).2 rfl)
  | succ f ih =>
    intro S a met w h ha hS hf hm
    by_cases h0 : S = 0
    · subst h0
      have := countWays_zero s sl xs hp a met w h (by rw [hm]; exact (met_all hS).2 rfl)
      simpa [waysN] using this
    have IH := Lib.hid ih
    clear ih
    have HRD := Lib.hid h
    obtain ⟨g, off, c, rfl, hmm, hg, hx⟩ := tour_cells h hp
    unfold maxLen at hmm
    have hs := hp.1
    have hsl := hp.2.1
    have hw := (tour_wins hp (a := a) ha).2.1
    have hxa := hx a ha
    have HWN : Hid (waysN xs xs.length (f + 1) S a = ((memN (S &&& winsN xs a) xs.length).map fun b => waysN xs xs.length f (less S (2 ^ b)) b).sum) := by unfold Hid; simp [waysN, h0]
    have HMEM := Lib.hid (fun b (hb : b ∈ memN (S &&& winsN xs a) xs.length) => show b < xs.length ∧ b ∈ memN S xs.length from by
      have := mem_memN.1 hb
      rw [Nat.testBit_and, Bool.and_eq_true] at this
      exact ⟨this.1, mem_memN.2 ⟨this.1, this.2.1⟩⟩)
    have HLE := Lib.hid (fun b (hb : b ∈ memN S xs.length) => waysN_le xs xs.length (by omega) f (less S (2 ^ b)) b (by have := card_less hb; omega))
    clear hp h hx
    generalize hn : xs.length = n at *
    obtain rfl : s = n := by omega
    rw [show ((n : Int)).toNat = n from rfl] at hw
    have hn8 : n ≤ 8 := by omega
    have hp8 := pow_le hn8
    have hfull := full_nat n hn8
    have hml : met < 2 ^ n := by rw [hm]; exact less_full_lt n S
    have hne : ¬ met = 2 ^ n - 1 := by rw [hm, met_all hS]; exact h0
    have hq : ((met : Int) == ((2 ^ n - 1 : Nat) : Int)) = false := by
      have : ¬ (met : Int) = ((2 ^ n - 1 : Nat) : Int) := fun e => hne (Int.ofNat.inj e)
      simpa using this
    have hand := i64_andNot_nat (winsN xs a) met (by omega) (by omega)
    have hle : less (winsN xs a) met = S &&& winsN xs a := by rw [hm]; exact wins_less hw
    rw [hle] at hand
    have hSW : S &&& winsN xs a < 2 ^ n := Nat.and_lt_two_pow _ hw
    have HN := Lib.hid hn
    have HS := Lib.hid hS
    have HF := Lib.hid hf
    have HM := Lib.hid hm
    clear hn hle hne hm hf h0
    go_enter Tryz.func34, Tryz.ntmps34
    go_wp2_with fail
    have b0 := below_alloc1 w (.cells #[.int .i64 n, .slice (some ⟨g, off, none⟩) n c] 25)
    have x0 := TBox.new w n (.slice (some ⟨g, off, none⟩) n c) 25
    generalize w.alloc (.cells #[.int .i64 n, .slice (some ⟨g, off, none⟩) n c] 25) = w0 at *
    have HX0 := Lib.hid x0
    have HB0 := Lib.hid b0
    clear x0 b0
    have y0_0 := HX0.out.1
    have y1_0 := HX0.out.2
    have hxa := (HB0.out.cell (by exact hg)).trans hxa
    go_wp2_with fail
    refine (membersOf_any (S &&& winsN xs a) n _ hSW (by omega)).mono ?_
    rintro e w2 ⟨v, rfl, ho, hb2⟩
    obtain ⟨A, d, rfl, hd1, hd2, hl⟩ := memL_cells ho
    unfold maxLen at hd1
    have HL := Lib.hid hl
    have B2 := Lib.hid (Below.then HB0.out hb2)
    have X2 := Lib.hid (HX0.out.below hb2)
    have hm8 := memN_len (S &&& winsN xs a) n
    clear hb2 ho hl HB0 HX0 y0_0 y1_0 hxa hand hfull hq
    generalize memN (S &&& winsN xs a) n = L at *
    generalize hLn : L.length = m at *
    have HLN := Lib.hid hLn
    clear hLn
    have hcard : Hid (0 < m → 0 < (memN S n).length) := fun h => by
      have h1 : L.getD 0 0 ∈ L := by rw [getD_nat (by rw [HLN.out]; exact h)]; exact List.getElem_mem _
      exact List.length_pos_of_mem (HMEM.out _ h1).2
    go_wp2
    go_loopw [7, 25] (fun t i wr => ∃ k : Nat, k ≤ m ∧ i = .int .i64 k ∧ t = .int .i64 (((L.take k).map fun b => waysN xs n f (less S (2 ^ b)) b).sum : Nat) ∧ Below w2.heap.size w2 wr ∧ TBox wr w.heap.size n (.slice (some ⟨g, off, none⟩) n c)) (fun _ i _ => m - (intOf i).toNat)
    case atStart => exact ⟨0, by omega, rfl, by simp, Below.refl _ _, X2.out⟩
    case round =>
      obtain ⟨k, hk, rfl, rfl, hb, hxx⟩ := hrel
      have HB := Lib.hid hb
      have HX := Lib.hid hxx
      have y0_0 := hxx.1
      have y1_0 := hxx.2
      clear hb hxx
      by_cases hlt : k < m
      · have hkl : k < L.length := by rw [HLN.out]; exact hlt
        obtain ⟨g', off', rfl, hg', hz⟩ := HL.out (by omega)
        have hzk := (HB.out.cell (by exact hg')).trans (hz k hlt)
        have hbL : L.getD k 0 ∈ L := by rw [getD_nat hkl]; exact List.getElem_mem hkl
        have hbm := HMEM.out _ hbL
        have hcl := card_less hbm.2
        have hfb := HLE.out _ hbm.2
        have hcl8 := memN_len S n
        have hpow : 8 ^ (memN (less S (2 ^ (L.getD k 0))) n).length ≤ 8 ^ 7 := Nat.pow_le_pow_right (by decide) (by omega)
        have hsum : ((L.take k).map fun b => waysN xs n f (less S (2 ^ b)) b).sum ≤ 8 * 8 ^ 7 := by
          refine Nat.le_trans (sum_le (B := 8 ^ 7) fun b hb => ?_) ?_
          · have h2 := (HMEM.out b (List.mem_of_mem_take hb)).2
            have h3 := card_less h2
            exact Nat.le_trans (HLE.out b h2) (Nat.pow_le_pow_right (by decide) (by omega))
          · exact Nat.mul_le_mul_right _ (by rw [List.length_take]; omega)
        rw [show (8 : Nat) ^ 7 = 2097152 from by decide] at hpow hsum
        have HST := Lib.hid (sum_take (F := fun b => waysN xs n f (less S (2 ^ b)) b) hkl)
        have hless := less_lt (S := S) (b := 2 ^ (L.getD k 0)) HS.out
        have hmore := met_more (S := S) hbm.1
        rw [← HM.out] at hmore
        generalize L.getD k 0 = b at *
        generalize ((L.take k).map fun b => waysN xs n f (less S (2 ^ b)) b).sum = T at *
        have hor := or_shl met b (by omega) (by omega)
        have hF := HF.out
        have k1 := quiet_below (w := wr) (fun W hW => IH.out (less S (2 ^ b)) b (met ||| 2 ^ b) W (((HRD.out.below B2.out).below HB.out).below hW) hbm.1 hless (by omega) hmore)
        have hFb : Hid (waysN xs n f (less S (2 ^ b)) b ≤ 2097152) := Nat.le_trans hfb hpow
        have hFb' := hFb.out
        clear hz hfb hpow hmore hcl
        generalize waysN xs n f (less S (2 ^ b)) b = F at *
        go_wp2_with fail
        have y0_q := cell_regrown y0_0
        have y1_q := cell_regrown y1_0
        clear y0_0 y1_0
        refine wp_region_below (by kernel_rfl) (by kernel_rfl) ?_
        repeat (go_big_quiet_step (first | (with_reducible exact k1 _ _)))
        refine wpQuiet_nil ?_
        intro wq hbq0
        have hbq := Lib.hid hbq0
        clear hbq0
        clear y0_q y1_q
        go_wp2
        go_roundw
        case rel => exact ⟨k + 1, by omega, by go_num, by rw [HST.out]; go_num, Below.then HB.out hbq.out, HX.out.below hbq.out⟩
        case measure => simp [intOf]; omega
      · obtain rfl : k = m := by omega
        rw [show L.take k = L from List.take_of_length_le (by rw [HLN.out]; exact Nat.le_refl _)]
        go_wp2
        go_ret
        exact ⟨ret_int (by rw [HWN.out]), Below.then B2.out HB.out⟩
theorem sub_shl (U a : Nat) (hU : U < 256) (ha : a < 8) (h : U.testBit a = true) : wrap64 ((U : Int) - wrap64 (2 ^ a)) = ((less U (2 ^ a) : Nat) : Int) := by
  have h2 := sub_less (S := U) (a := a) (Nat.lt_trans hU (by decide)) (by omega) h
  have h3 : 2 ^ a ≤ U := Nat.ge_two_pow_of_testBit h
  have h5 : U - 2 ^ a < 9223372036854775808 := Nat.lt_of_le_of_lt (Nat.sub_le _ _) (by omega)
  rw [shl_nat a (by omega), ← h2, ← Int.natCast_sub h3]
  exact wrap64_nat _ h5
theorem less_less {n a : Nat} (h : a < n) : 2 ^ a = less (2 ^ n - 1) (less (2 ^ n - 1) (2 ^ a)) := Nat.eq_of_testBit_eq fun j => by
  rw [testBit_less, testBit_less, testBit_full, Nat.testBit_two_pow]
  by_cases e : a = j
  · subst e; simp [h]
  · simp [e]
end Go.Proofs.YtbkiedhaacapbaaGreat

namespace Go.Proofs.YtbkiedhaacapbaaGreat
open Go.RowKit Go.Sort

theorem orK_ge (xs : List Int) (l : List Nat) (S : Nat) : S ≤ orK xs l S := by
  induction l generalizing S with
  | nil => exact Nat.le_refl _
  | cons b l ih =>
    unfold orK
    rw [List.foldl_cons]
    exact Nat.le_trans Nat.left_le_or (ih _)
theorem orK_ltn {n : Nat} {xs : List Int} (hw : ∀ b, b < n → winsN xs b < 2 ^ n) {l : List Nat} (hl : ∀ b ∈ l, b < n) {S : Nat} (hS : S < 2 ^ n) : orK xs l S < 2 ^ n := by
  induction l generalizing S with
  | nil => exact hS
  | cons b l ih =>
    unfold orK
    rw [List.foldl_cons]
    exact ih (fun c hc => hl c (by simp [hc])) (Nat.or_lt_two_pow hS (hw b (hl b (by simp))))
/-- more and more that the found beat, until there is no more -/
def itN (xs : List Int) (n : Nat) : Nat → Nat → Nat
  | 0, S => S
  | f + 1, S => if orK xs (memN S n) S = S then S else itN xs n f (orK xs (memN S n) S)
theorem itN_stop {xs : List Int} {n f S : Nat} (h : orK xs (memN S n) S = S) : itN xs n f S = S := by
  cases f with
  | zero => rfl
  | succ f => simp [itN, h]
theorem itN_go {xs : List Int} {n f S : Nat} (h : ¬ orK xs (memN S n) S = S) (hf : 0 < f) : itN xs n f S = itN xs n (f - 1) (orK xs (memN S n) S) := by
  obtain ⟨f, rfl⟩ : ∃ g, f = g + 1 := ⟨f - 1, by omega⟩
  simp [itN, h]
def reachN (xs : List Int) (a : Nat) : Nat := itN xs xs.length 256 (2 ^ a)
noncomputable def reachI (s : Int) (xs : List Int) (a : Int) : Int := if (tourB s xs && inB a 0 (s - 1)) = true then (reachN xs a.toNat : Int) else 0
set_option maxHeartbeats 1000000 in
theorem reach_any (s : Int) (sl : Value) (xs : List Int) (a : Nat) (w : World) (h : Rd w sl xs) (hp : tourP s xs) (ha : a < xs.length) :
    Calls Tryz.prog 61 #[.agg #[.int .i64 s, sl], .int .i64 a] w fun e w' => e = .returned (.int .i64 (reachN xs a : Nat)) ∧ Below w.heap.size w w' := by
  obtain ⟨g, off, c, rfl, hm, hg, hx⟩ := tour_cells h hp
  unfold maxLen at hm
  have hs := hp.1
  have hsl := hp.2.1
  have HX := Lib.hid hx
  have HW := Lib.hid (fun j hj => (tour_wins hp (a := j) hj).2.1)
  have hR : Hid (reachN xs a = itN xs xs.length 256 (2 ^ a)) := rfl
  clear hp h hx
  generalize hn : xs.length = n at *
  obtain rfl : s = n := by omega
  rw [show ((n : Int)).toNat = n from rfl] at HW
  have hn8 : n ≤ 8 := by omega
  have hp8 := pow_le hn8
  have hp0 := pow_lt8 (by omega : a < 8)
  have hpa : 2 ^ a < 2 ^ n := Nat.pow_lt_pow_right (by decide) ha
  have hshl := shl_nat a (by omega)
  clear hn
  go_enter Tryz.func61, Tryz.ntmps61
  go_wp2_with fail
  have b0 := below_alloc1 w (.cells #[.int .i64 n, .slice (some ⟨g, off, none⟩) n c] 25)
  have x0 := TBox.new w n (.slice (some ⟨g, off, none⟩) n c) 25
  generalize w.alloc (.cells #[.int .i64 n, .slice (some ⟨g, off, none⟩) n c] 25) = w0 at *
  have HX0 := Lib.hid x0
  have HB0 := Lib.hid b0
  clear x0 b0
  have y0_0 := HX0.out.1
  have y1_0 := HX0.out.2
  go_wp2
  go_loopw [5] (fun t wr => ∃ S f : Nat, t = .int .i64 S ∧ S < 2 ^ n ∧ 256 ≤ f + S ∧ Hid (reachN xs a = itN xs n f S) ∧ Below w.heap.size w wr ∧ TBox wr w.heap.size n (.slice (some ⟨g, off, none⟩) n c)) (fun t _ => 256 - (intOf t).toNat)
  case atStart => exact ⟨2 ^ a, 256, by first | rfl | exact congrArg _ hshl, hpa, Nat.le_add_right _ _, hR, HB0.out, HX0.out⟩
  case round =>
    obtain ⟨S, f, rfl, hS, hf, HF, hb, hxx⟩ := hrel
    have B1 := Lib.hid hb
    have X1 := Lib.hid hxx
    have HS := Lib.hid hS
    have hS256 : S < 256 := by omega
    clear hb hxx HB0 HX0 y0_0 y1_0 hshl
    go_wp2_with fail
    refine (membersOf_any S n _ hS (by omega)).mono ?_
    rintro e w2 ⟨v, rfl, ho, hb2⟩
    obtain ⟨A, d, rfl, hd1, hd2, hl⟩ := memL_cells ho
    unfold maxLen at hd1
    have HL := Lib.hid hl
    have B2 := Lib.hid (Below.then B1.out hb2)
    have X2 := X1.out.below hb2
    have y0 := X2.1
    have y1 := X2.2
    have HX2 := Lib.hid X2
    have HXX := Lib.hid (fun j hj => (B2.out.cell (by exact hg)).trans (HX.out j hj))
    have hm8 := memN_len S n
    have HM := Lib.hid (fun b (hb : b ∈ memN S n) => (mem_memN.1 hb).1)
    have HG := Lib.hid (orK_ge xs (memN S n) S)
    have HIT := Lib.hid (And.intro (fun h => itN_stop (xs := xs) (n := n) (f := f) (S := S) h) (fun h h2 => itN_go (xs := xs) (n := n) (f := f) (S := S) h h2))
    clear hb2 B1 X1 ho hl X2 hS
    generalize hlst : memN S n = L at *
    clear hlst
    generalize hLn : L.length = m at *
    have HLN := Lib.hid hLn
    clear hLn
    go_wp2
    go_loop [6, 15] (fun t i => ∃ k : Nat, k ≤ m ∧ i = .int .i64 k ∧ t = .int .i64 (orK xs (L.take k) S : Nat)) (fun _ i => m - (intOf i).toNat)
    case atStart => exact ⟨0, by omega, rfl, by simp [orK]⟩
    case round =>
      obtain ⟨k, hk, rfl, rfl⟩ := hrel
      have hN8 := orK_ltn HW.out (fun b hb => HM.out b (List.mem_of_mem_take hb)) (l := L.take k) HS.out
      have hN256 : orK xs (L.take k) S < 256 := by omega
      by_cases hlt : k < m
      · have hkl : k < L.length := by rw [HLN.out]; exact hlt
        obtain ⟨g', off', rfl, hg', hz⟩ := HL.out (by omega)
        have hzk := hz k hlt
        have hbn := HM.out (L.getD k 0) (by rw [getD_nat hkl]; exact List.getElem_mem hkl)
        have hxb := HXX.out (L.getD k 0) hbn
        have hw8 := HW.out (L.getD k 0) hbn
        have HST : Hid (orK xs (L.take (k + 1)) S = orK xs (L.take k) S ||| winsN xs (L.getD k 0)) := by unfold Hid; rw [take_snocN hkl, orK_snoc, getD_nat hkl]
        generalize L.getD k 0 = b at *
        generalize orK xs (L.take k) S = N at *
        have hor := i64_or_nat N (winsN xs b) (by omega) (by omega)
        generalize winsN xs b = wb at *
        clear hz
        go_wp2
        go_round
        case rel => exact ⟨k + 1, by omega, by go_num, by rw [HST.out]⟩
        case measure => simp [intOf]; omega
      · obtain rfl : k = m := by omega
        rw [show L.take k = L from List.take_of_length_le (by rw [HLN.out]; exact Nat.le_refl _)] at hN8 hN256 ⊢
        have hge := HG.out
        by_cases hT : orK xs L S = S
        · have hst := HIT.out.1 hT
          rw [hT]
          have HST := Lib.hid hst
          have hq : ((S : Int) == (S : Int)) = true := by simp
          clear hst hT hN8 hN256 hge
          go_wp2
          go_ret
          exact ⟨ret_int (by rw [HF.out, HST.out]), B2.out⟩
        · have hst := HIT.out.2 hT (by omega)
          generalize orK xs L S = T at *
          have hq : ((T : Int) == (S : Int)) = false := by simp; omega
          have HST := Lib.hid hst
          clear hst
          go_wp2
          go_roundw
          case rel => exact ⟨T, f - 1, rfl, hN8, by omega, by unfold Hid; rw [HF.out, HST.out], B2.out, HX2.out⟩
          case measure => simp [intOf]; omega
end Go.Proofs.YtbkiedhaacapbaaGreat

namespace Go.Proofs.YtbkiedhaacapbaaGreat
open Go.RowKit Go.Sort

theorem pop_mem {S : Nat} (h : S < 256) : popN 8 S = (memN S 8).length := by
  have : ∀ S : Fin 256, popN 8 S.1 = (memN S.1 8).length := by decide +kernel
  exact this ⟨S, h⟩
theorem card_mono {S T n : Nat} (h : ∀ j, S.testBit j = true → T.testBit j = true) : (memN S n).length ≤ (memN T n).length := by
  unfold memN
  rw [← List.countP_eq_length_filter, ← List.countP_eq_length_filter]
  exact List.countP_mono_left fun j _ hj => h j hj
theorem testBit_orK (xs : List Int) (l : List Nat) (S j : Nat) : (orK xs l S).testBit j = (S.testBit j || l.any fun b => (winsN xs b).testBit j) := by
  induction l generalizing S with
  | nil => simp [orK]
  | cons b l ih =>
    have : orK xs (b :: l) S = orK xs l (S ||| winsN xs b) := by simp [orK]
    rw [this, ih, Nat.testBit_or, List.any_cons, Bool.or_assoc]
theorem mem_loseN {xs : List Int} {a n b : Nat} : b ∈ loseN xs a n ↔ b < n ∧ bitI (xs.getD b 0) a = true := by simp [loseN]
/-- two players: one of them beats the other one, and not both -/
theorem beat_one {s : Int} {xs : List Int} (hp : tourP s xs) {a b : Nat} (ha : a < xs.length) (hb : b < xs.length) (hab : a ≠ b) : (winsN xs a).testBit b = !(winsN xs b).testBit a := by
  have h1 : ∀ a b, a < xs.length → b < a → (winsN xs a).testBit b ≠ (winsN xs b).testBit a := fun a b ha hb => by
    have := (hp.2.2.2 a ha).2 b hb
    rwa [bit_nat hp ha, bit_nat hp (by omega : b < xs.length)] at this
  rcases Nat.lt_or_gt_of_ne hab with h | h
  · have := h1 b a hb h
    revert this; cases (winsN xs a).testBit b <;> cases (winsN xs b).testBit a <;> simp
  · have := h1 a b ha h
    revert this; cases (winsN xs a).testBit b <;> cases (winsN xs b).testBit a <;> simp
theorem beat_self {s : Int} {xs : List Int} (hp : tourP s xs) {a : Nat} (ha : a < xs.length) : (winsN xs a).testBit a = false := by
  have := (hp.2.2.2 a ha).1
  rwa [bit_nat hp ha] at this
theorem wins_hi {s : Int} {xs : List Int} (hp : tourP s xs) {a b : Nat} (ha : a < xs.length) (hb : xs.length ≤ b) : (winsN xs a).testBit b = false := by
  have h1 := (tour_wins hp ha).2.1
  have h2 := hp.2.1
  exact Nat.testBit_lt_two_pow (Nat.lt_of_lt_of_le h1 (Nat.pow_le_pow_right (by decide) (by omega)))
theorem kstK_best {xs : List Int} {a : Nat} {l : List Nat} (ha : a ∉ l) :
    (l = [] ∧ kstK xs a l = a) ∨ (kstK xs a l ∈ l ∧ ∀ b ∈ l, popN 8 (winsN xs b) ≤ popN 8 (winsN xs (kstK xs a l))) := by
  rcases List.eq_nil_or_concat l with rfl | ⟨l', b, rfl⟩
  · exact .inl ⟨rfl, rfl⟩
  · right
    rw [List.concat_eq_append] at ha ⊢
    have hn : l'.length < (l' ++ [b]).length := by simp
    have ih := kstK_best (xs := xs) (a := a) (l := l') (fun h => ha (by simp [h]))
    have hb : a ≠ b := fun h => ha (by simp [h])
    rw [kstK_snoc]
    unfold stepF
    rcases ih with ⟨rfl, e⟩ | ⟨hm, hx⟩
    · rw [e]; simp
    · have hne : kstK xs a l' ≠ a := fun h => ha (by rw [h] at hm; simp [hm])
      split
      · rename_i h
        rcases h with h | h
        · exact absurd h hne
        · refine ⟨by simp, fun c hc => ?_⟩
          rw [List.mem_append, List.mem_singleton] at hc
          rcases hc with hc | rfl
          · have := hx c hc; omega
          · exact Nat.le_refl _
      · rename_i h
        refine ⟨by simp [hm], fun c hc => ?_⟩
        rw [List.mem_append, List.mem_singleton] at hc
        rcases hc with hc | rfl
        · exact hx c hc
        · omega
termination_by l.length
/-- who is no king is beaten by someone with a greater score -/
theorem step_up {s : Int} {xs : List Int} (hp : tourP s xs) {a : Nat} (ha : a < xs.length) (hk : kingN xs a = false) : popN 8 (winsN xs a) < popN 8 (winsN xs (kstepN xs a)) := by
  have h8 : xs.length ≤ 8 := by have := hp.1; have := hp.2.1; omega
  have hex : ∃ c, c < xs.length ∧ (nearN xs a).testBit c = false := by
    refine Classical.byContradiction fun hc => ?_
    have hall : ∀ c, c < xs.length → (nearN xs a).testBit c = true := fun c h => by
      rcases q : (nearN xs a).testBit c with _ | _
      · exact absurd ⟨c, h, q⟩ hc
      · rfl
    have hlt : nearN xs a < 2 ^ xs.length := by
      have hw : ∀ b, b < xs.length → winsN xs b < 2 ^ xs.length := fun b hb => by
        have := (tour_wins hp hb).2.1
        rwa [show s.toNat = xs.length by have := hp.2.1; omega] at this
      exact orK_ltn hw (wins_mem hp ha) (Nat.or_lt_two_pow (hw a ha) (Nat.pow_lt_pow_right (by decide) ha))
    have : nearN xs a = 2 ^ xs.length - 1 := Nat.eq_of_testBit_eq fun j => by
      rw [testBit_full]
      by_cases hj : j < xs.length
      · simp [hall j hj, hj]
      · simp only [hj, decide_false]
        exact Nat.testBit_lt_two_pow (Nat.lt_of_lt_of_le hlt (Nat.pow_le_pow_right (by decide) (by omega)))
    simp [kingN, this] at hk
  obtain ⟨c, hc, hn⟩ := hex
  unfold nearN at hn
  rw [testBit_orK, Nat.testBit_or, Nat.testBit_two_pow] at hn
  simp only [Bool.or_eq_false_iff, decide_eq_false_iff_not, List.any_eq_false] at hn
  obtain ⟨⟨h1, h2⟩, h3⟩ := hn
  have hca : (winsN xs c).testBit a = true := by
    have := beat_one hp hc ha (fun e => h2 e.symm)
    rw [this, h1]; rfl
  have hsub : ∀ j, (winsN xs a).testBit j = true → (less (winsN xs c) (2 ^ a)).testBit j = true := fun j hj => by
    have hjn : j < xs.length := by
      rcases Nat.lt_or_ge j xs.length with h | h
      · exact h
      · rw [wins_hi hp ha h] at hj; simp at hj
    have hja : a ≠ j := fun e => by subst e; rw [beat_self hp ha] at hj; simp at hj
    have hjc : c ≠ j := fun e => by subst e; rw [h1] at hj; simp at hj
    have h4 : (winsN xs j).testBit c = false := by
      have := h3 j (mem_memN.2 ⟨by omega, hj⟩)
      simpa using this
    have h5 := beat_one hp hc hjn hjc
    rw [testBit_less, Nat.testBit_two_pow, h5, h4]
    simp [hja]
  have hm : a ∈ memN (winsN xs c) 8 := mem_memN.2 ⟨by omega, hca⟩
  have hcard := card_less hm
  have hle := card_mono (n := 8) hsub
  rw [← pop_mem (tour_wins hp hc).2.2] at hcard
  rw [← pop_mem (tour_wins hp ha).2.2] at hle
  have hmem : c ∈ loseN xs a xs.length := mem_loseN.2 ⟨hc, by rw [bit_nat hp hc]; exact hca⟩
  have hself : a ∉ loseN xs a xs.length := fun h => by
    have := (mem_loseN.1 h).2
    rw [bit_nat hp ha, beat_self hp ha] at this
    simp at this
  rcases kstK_best (xs := xs) hself with ⟨e, _⟩ | ⟨_, hx⟩
  · rw [e] at hmem; simp at hmem
  · have := hx c hmem
    unfold kstepN
    omega
theorem kstep_lt {xs : List Int} {a : Nat} (ha : a < xs.length) : kstepN xs a < xs.length := kstK_mem ha fun _b hb => (mem_loseN.1 hb).1
def climbF (xs : List Int) : Nat → Nat → Nat
  | 0, a => a
  | f + 1, a => if kingN xs a = true then a else climbF xs f (kstepN xs a)
theorem climb_same {s : Int} {xs : List Int} (hp : tourP s xs) (f : Nat) : ∀ (a : Nat), a < xs.length → 8 - popN 8 (winsN xs a) < f → ∀ g, 8 - popN 8 (winsN xs a) < g → climbF xs f a = climbF xs g a := by
  induction f with
  | zero => intro a _ h; omega
  | succ f ih =>
    intro a ha hf g hg
    obtain ⟨g, rfl⟩ : ∃ g', g = g' + 1 := ⟨g - 1, by omega⟩
    simp only [climbF]
    rcases q : kingN xs a with _ | _
    · have := step_up hp ha q
      have := popN_le 8 (winsN xs (kstepN xs a))
      simp only [Bool.false_eq_true, if_false]
      exact ih _ (kstep_lt ha) (by omega) g (by omega)
    · simp
theorem climb_step {s : Int} {xs : List Int} (hp : tourP s xs) {a : Nat} (ha : a < xs.length) (hk : kingN xs a = false) : climbF xs 9 (kstepN xs a) = climbF xs 9 a := by
  have e : climbF xs 9 a = climbF xs 8 (kstepN xs a) := by simp [climbF, hk]
  have := step_up hp ha hk
  have := popN_le 8 (winsN xs (kstepN xs a))
  rw [e]
  exact climb_same hp 9 _ (kstep_lt ha) (by omega) 8 (by omega)
theorem climb_stop {xs : List Int} {a : Nat} (hk : kingN xs a = true) : climbF xs 9 a = a := by simp [climbF, hk]
noncomputable def climbI (s : Int) (xs : List Int) (a : Int) : Int := if (tourB s xs && inB a 0 (s - 1)) = true then (climbF xs 9 a.toNat : Int) else -1
end Go.Proofs.YtbkiedhaacapbaaGreat

namespace Go.Proofs.YtbkiedhaacapbaaGreat
set_option maxRecDepth 100000
def scN (xs : List Int) (b : Nat) : Int := (popN 8 (winsN xs b) : Nat)
theorem scN_bd (xs : List Int) (b : Nat) : 0 ≤ scN xs b ∧ scN xs b ≤ 8 := by
  have := popN_le 8 (winsN xs b)
  unfold scN; omega
theorem memN_sum (S : Nat) (g : Nat → Int) (k : Nat) : ((memN S k).map g).sum = sumN (fun b => if S.testBit b = true then g b else 0) k := by
  induction k with
  | zero => rfl
  | succ k ih =>
    rw [memN_succ, List.map_append, List.sum_append, ih, sumN]
    split <;> simp_all
theorem loseN_sum (xs : List Int) (a : Nat) (g : Nat → Int) (k : Nat) : ((loseN xs a k).map g).sum = sumN (fun b => if bitI (xs.getD b 0) a = true then g b else 0) k := by
  induction k with
  | zero => rfl
  | succ k ih =>
    rw [loseN_succ, List.map_append, List.sum_append, ih, sumN]
    split <;> simp_all
section
variable {n : Nat} {xs : List Int}
theorem tour_len (hp : tourP n xs) : xs.length = n := by have := hp.2.1; omega
theorem mem8 (hp : tourP n xs) {a : Nat} (ha : a < n) : memN (winsN xs a) 8 = memN (winsN xs a) n := by
  have hl := tour_len hp
  have h := (tour_wins hp (hl ▸ ha)).2.1
  have h1 := hp.1
  rw [show ((n : Int)).toNat = n from rfl] at h
  exact memN_top (by omega) (Nat.div_eq_of_lt h)
theorem sc_sum (hp : tourP n xs) {a : Nat} (ha : a < n) : scN xs a = sumN (fun b => if bt xs a b = true then 1 else 0) n := by
  unfold scN
  rw [pop_mem (tour_wins hp (tour_len hp ▸ ha)).2.2, mem8 hp ha, ← memN_sum]
  generalize memN (winsN xs a) n = l
  induction l with
  | nil => rfl
  | cons c l ih => rw [List.map_cons, List.sum_cons, ← ih, List.length_cons]; omega
theorem tr_bit (hp : tourP n xs) {a b : Nat} (ha : a < n) (hb : b < n) : (a = b → bt xs a b = false) ∧ (a ≠ b → bt xs a b = !bt xs b a) := by
  have h := tour_bits hp
  rw [tour_len hp] at h
  exact ⟨fun e => by subst e; exact h.2.1 a ha, fun e => h.2.2 a b ha hb e⟩
/-- the number of those who beat b -/
theorem by_sum (hp : tourP n xs) {b : Nat} (hb : b < n) : sumN (fun a => if bt xs a b = true then 1 else 0) n = n - 1 - scN xs b := by
  rw [sc_sum hp hb]
  have e : sumN (fun a => (if bt xs a b = true then 1 else 0) + (if bt xs b a = true then 1 else 0)) n = sumN (fun a => 1 - if a = b then 1 else 0) n := sumN_congr fun a ha => by
    have h1 := tr_bit hp ha hb
    have h2 := tr_bit hp hb ha
    by_cases e : a = b
    · subst e; rw [if_neg (by rw [h1.1 rfl]; decide), if_pos rfl]; rfl
    · rw [if_neg e, h1.2 e]
      cases bt xs b a <;> rfl
  rw [sumN_add, sumN_sub, sumN_const, sumN_one hb (fun k _ hk => if_neg hk), if_pos rfl] at e
  omega
theorem sc_bd (hp : tourP n xs) {b : Nat} (hb : b < n) : 0 ≤ scN xs b ∧ scN xs b ≤ (n : Int) - 1 := by
  have h := by_sum hp hb
  have h1 : 0 ≤ sumN (fun a => if bt xs a b = true then (1 : Int) else 0) n := sumN_nonneg fun k _ => by split <;> omega
  have := scN_bd xs b
  omega
end
end Go.Proofs.YtbkiedhaacapbaaGreat

