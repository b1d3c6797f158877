/- Texts put together: WyC, WyD, WyF, TpF. -/
import Derived.Test.YtbkiedhaacapbaaGreatMTop09
import Derived.Test.YtbkiedhaacapbaaGreatMTop13
import Derived.Test.YtbkiedhaacapbaaGreatMTop32
import Derived.Test.YtbkiedhaacapbaaGreatMTop11
import Derived.Test.YtbkiedhaacapbaaGreatMTop20
import Derived.Test.YtbkiedhaacapbaaGreatMTop16
import Derived.Test.YtbkiedhaacapbaaGreatMTop10
import Derived.Test.YtbkiedhaacapbaaGreatMTop01
import Derived.Test.YtbkiedhaacapbaaGreatMTop21
import Derived.Test.YtbkiedhaacapbaaGreatMTop18
namespace Go.Proofs.YtbkiedhaacapbaaGreat
open Go.RowKit Go.Sort
set_option maxRecDepth 100000
theorem bit_zero_ (W : Nat) : bits .and .i64 (W : Int) 1 = ((W.testBit 0).toNat : Int) := by
  rw [i64_and_one, Nat.testBit_zero]
  rcases Nat.mod_two_eq_zero_or_one W with h | h
  · rw [show (W : Int) % 2 = 0 by omega, h]; rfl
  · rw [show (W : Int) % 2 = 1 by omega, h]; rfl
/-- lexicographically ahead, and no beginning -/
def befI : List Int → List Int → Bool
  | [], _ => false
  | _ :: _, [] => false
  | x :: a, y :: b => if x = y then befI a b else decide (x < y)
theorem befI_drop {xs ys : List Int} : ∀ k, k ≤ xs.length → k ≤ ys.length → (∀ j, j < k → xs.getD j 0 = ys.getD j 0) → befI xs ys = befI (xs.drop k) (ys.drop k) := by
  intro k
  induction k with
  | zero => intro _ _ _; rfl
  | succ k ih =>
    intro h1 h2 h3
    rw [ih (by omega) (by omega) fun j hj => h3 j (by omega)]
    have e1 := List.drop_eq_getElem_cons (show k < xs.length by omega)
    have e2 := List.drop_eq_getElem_cons (show k < ys.length by omega)
    have e3 := h3 k (by omega)
    rw [List.getD_eq_getElem?_getD, List.getElem?_eq_getElem (by omega), List.getD_eq_getElem?_getD, List.getElem?_eq_getElem (by omega)] at e3
    have e3 : xs[k]'(by omega) = ys[k]'(by omega) := e3
    rw [e1, e2, befI, if_pos e3]
theorem befI_at {xs ys : List Int} {k : Nat} (h1 : k < xs.length) (h2 : k < ys.length) (h3 : ∀ j, j < k → xs.getD j 0 = ys.getD j 0) (h4 : xs.getD k 0 ≠ ys.getD k 0) : befI xs ys = decide (xs.getD k 0 < ys.getD k 0) := by
  rw [befI_drop k (by omega) (by omega) h3, List.drop_eq_getElem_cons h1, List.drop_eq_getElem_cons h2, befI]
  rw [List.getD_eq_getElem?_getD, List.getElem?_eq_getElem h1, List.getD_eq_getElem?_getD, List.getElem?_eq_getElem h2] at h4 ⊢
  have h4 : xs[k] ≠ ys[k] := h4
  rw [if_neg h4]; rfl
theorem befI_short {xs ys : List Int} (h1 : ys.length ≤ xs.length) (h3 : ∀ j, j < ys.length → xs.getD j 0 = ys.getD j 0) : befI xs ys = false := by
  rw [befI_drop ys.length h1 (Nat.le_refl _) h3, List.drop_length]
  cases xs.drop ys.length <;> rfl
theorem befI_end {xs ys : List Int} (h1 : xs.length ≤ ys.length) (h3 : ∀ j, j < xs.length → xs.getD j 0 = ys.getD j 0) : befI xs ys = false := by
  rw [befI_drop xs.length (Nat.le_refl _) h1 h3, List.drop_length]
  rfl
theorem wyQ_le {r : Nat → Nat → Bool} {Q : Nat → Bool} {n : Nat} : ∀ f S a, wyQ r Q n f S a ≤ wyQ r (fun _ => true) n f S a := by
  intro f
  induction f with
  | zero => intro S a; rw [wyQ, wyQ]; split <;> simp
  | succ f ih =>
    intro S a
    rw [wyQ, wyQ]
    split
    · split <;> simp
    · have key : ∀ l : List Nat, (l.map fun b => wyQ r Q n f (less S (2 ^ b)) b).sum ≤ (l.map fun b => wyQ r (fun _ => true) n f (less S (2 ^ b)) b).sum := by
        intro l
        induction l with
        | nil => simp
        | cons x l ihl => rw [List.map_cons, List.map_cons, List.sum_cons, List.sum_cons]; have := ih (less S (2 ^ x)) x; omega
      exact key _
/-- the ways from a through all of S and back to player 0 -/
def cyN (xs : List Int) (n f S a : Nat) : Nat := wyQ (bt xs) (fun a => bt xs a 0) n f S a
theorem cyN_le (xs : List Int) (n : Nat) (hn : n ≤ 8) (f S a : Nat) (hf : (memN S n).length ≤ f) : cyN xs n f S a ≤ 8 ^ (memN S n).length :=
  Nat.le_trans (wyQ_le f S a) (by rw [← waysN_wyQ]; exact waysN_le xs n hn f S a hf)
theorem cyN_step (xs : List Int) (n f S a : Nat) (h0 : S ≠ 0) : cyN xs n (f + 1) S a = ((memN (S &&& winsN xs a) n).map fun b => cyN xs n f (less S (2 ^ b)) b).sum := by
  unfold cyN
  rw [wyQ, if_neg h0]
  have e : memN (S &&& winsN xs a) n = (List.range n).filter fun b => S.testBit b && bt xs a b := by
    unfold memN
    exact List.filter_congr fun x _ => by rw [Nat.testBit_and]
  rw [e]
set_option maxHeartbeats 400000 in
theorem countCycles_zero (s : Int) (sl : Value) (xs : List Int) (hp : tourP s xs) (a met : Nat) (w : World) (h : Rd w sl xs) (hm : met = 2 ^ xs.length - 1) (ha : a < xs.length) :
    Calls Tryz.prog 50 #[.agg #[.int .i64 s, sl], .int .i64 a, .int .i64 met] w fun e w' => e = .returned (.int .i64 ((if bt xs a 0 = true then 1 else 0 : Nat) : Int)) ∧ Below w.heap.size w w' := by
  obtain ⟨g, off, c, rfl, hmm, hg, hx⟩ := tour_cells h hp
  have hs := hp.1
  have hsl := hp.2.1
  have hxa := hx a ha
  have hb0 := bit_zero_ (winsN xs a)
  have HB : Hid ((winsN xs a).testBit 0 = bt xs a 0) := rfl
  generalize hn : xs.length = n at *
  obtain rfl : s = n := by omega
  have hfull := full_nat n (by omega)
  have hq : ((met : Int) == ((2 ^ n - 1 : Nat) : Int)) = true := by rw [hm]; simp
  clear hn hp h hm hx
  rw [HB.out] at hb0
  have hb0 : bits .and .i64 (winsN xs a : Int) 1 = ((bt xs a 0).toNat : Int) := hb0
  generalize bt xs a 0 = q at *
  rcases q with _ | _
  · have hb1 : bits .and .i64 (winsN xs a : Int) 1 = 0 := hb0
    clear hb0
    go_enter Tryz.func50, Tryz.ntmps50
    go_wp2_with fail
    have b0 := below_alloc1 w (.cells #[.int .i64 n, .slice (some ⟨g, off, none⟩) n c] 25)
    have x0 := TBox.new w n (.slice (some ⟨g, off, none⟩) n c) 25
    generalize w.alloc (.cells #[.int .i64 n, .slice (some ⟨g, off, none⟩) n c] 25) = w0 at *
    have HX0 := Lib.hid x0
    have HB0 := Lib.hid b0
    clear x0 b0
    have y0_0 := HX0.out.1
    have y1_0 := HX0.out.2
    have hxa := (HB0.out.cell (by exact hg)).trans hxa
    go_wp2
    go_ret
    exact ⟨rfl, HB0.out⟩
  · have hb1 : bits .and .i64 (winsN xs a : Int) 1 = 1 := hb0
    clear hb0
    go_enter Tryz.func50, Tryz.ntmps50
    go_wp2_with fail
    have b0 := below_alloc1 w (.cells #[.int .i64 n, .slice (some ⟨g, off, none⟩) n c] 25)
    have x0 := TBox.new w n (.slice (some ⟨g, off, none⟩) n c) 25
    generalize w.alloc (.cells #[.int .i64 n, .slice (some ⟨g, off, none⟩) n c] 25) = w0 at *
    have HX0 := Lib.hid x0
    have HB0 := Lib.hid b0
    clear x0 b0
    have y0_0 := HX0.out.1
    have y1_0 := HX0.out.2
    have hxa := (HB0.out.cell (by exact hg)).trans hxa
    go_wp2
    go_ret
    exact ⟨rfl, HB0.out⟩
set_option maxHeartbeats 2000000 in
theorem countCycles_any (s : Int) (sl : Value) (xs : List Int) (hp : tourP s xs) (f : Nat) : ∀ (S a met : Nat) (w : World) (_ : Rd w sl xs) (_ : a < xs.length) (_ : S < 2 ^ xs.length) (_ : (memN S xs.length).length ≤ f) (_ : met = less (2 ^ xs.length - 1) S),
    Calls Tryz.prog 50 #[.agg #[.int .i64 s, sl], .int .i64 a, .int .i64 met] w fun e w' => e = .returned (.int .i64 (cyN xs xs.length f S a : Nat)) ∧ Below w.heap.size w w' := by
  induction f with
  | zero =>
    intro S a met w h ha hS hf hm
    have h0 : S = 0 := (card_zero hS).1 (by omega)
    subst h0
    exact countCycles_zero s sl xs hp a met w h (by rw [hm]; exact (met_all hS).2 rfl) ha
  | succ f ih =>
    intro S a met w h ha hS hf hm
    by_cases h0 : S = 0
    · subst h0
      have := countCycles_zero s sl xs hp a met w h (by rw [hm]; exact (met_all hS).2 rfl) ha
      rwa [show ((if bt xs a 0 = true then 1 else 0 : Nat)) = cyN xs xs.length (f + 1) 0 a by unfold cyN; rw [wyQ, if_pos rfl]] at this
    have IH := Lib.hid ih
    clear ih
    have HRD := Lib.hid h
    obtain ⟨g, off, c, rfl, hmm, hg, hx⟩ := tour_cells h hp
    unfold maxLen at hmm
    have hs := hp.1
    have hsl := hp.2.1
    have hw := (tour_wins hp (a := a) ha).2.1
    have hxa := hx a ha
    have HWN : Hid (cyN xs xs.length (f + 1) S a = ((memN (S &&& winsN xs a) xs.length).map fun b => cyN xs xs.length f (less S (2 ^ b)) b).sum) := Lib.hid (cyN_step xs xs.length f S a h0)
    have HMEM := Lib.hid (fun b (hb : b ∈ memN (S &&& winsN xs a) xs.length) => show b < xs.length ∧ b ∈ memN S xs.length from by
      have := mem_memN.1 hb
      rw [Nat.testBit_and, Bool.and_eq_true] at this
      exact ⟨this.1, mem_memN.2 ⟨this.1, this.2.1⟩⟩)
    have HLE := Lib.hid (fun b (hb : b ∈ memN S xs.length) => cyN_le xs xs.length (by omega) f (less S (2 ^ b)) b (by have := card_less hb; omega))
    clear hp h hx
    generalize hn : xs.length = n at *
    obtain rfl : s = n := by omega
    rw [show ((n : Int)).toNat = n from rfl] at hw
    have hn8 : n ≤ 8 := by omega
    have hp8 := pow_le hn8
    have hfull := full_nat n hn8
    have hml : met < 2 ^ n := by rw [hm]; exact less_full_lt n S
    have hne : ¬ met = 2 ^ n - 1 := by rw [hm, met_all hS]; exact h0
    have hq : ((met : Int) == ((2 ^ n - 1 : Nat) : Int)) = false := by
      have : ¬ (met : Int) = ((2 ^ n - 1 : Nat) : Int) := fun e => hne (Int.ofNat.inj e)
      simpa using this
    have hand := i64_andNot_nat (winsN xs a) met (by omega) (by omega)
    have hle : less (winsN xs a) met = S &&& winsN xs a := by rw [hm]; exact wins_less hw
    rw [hle] at hand
    have hSW : S &&& winsN xs a < 2 ^ n := Nat.and_lt_two_pow _ hw
    have HN := Lib.hid hn
    have HS := Lib.hid hS
    have HF := Lib.hid hf
    have HM := Lib.hid hm
    clear hn hle hne hm hf h0
    go_enter Tryz.func50, Tryz.ntmps50
    go_wp2_with fail
    have b0 := below_alloc1 w (.cells #[.int .i64 n, .slice (some ⟨g, off, none⟩) n c] 25)
    have x0 := TBox.new w n (.slice (some ⟨g, off, none⟩) n c) 25
    generalize w.alloc (.cells #[.int .i64 n, .slice (some ⟨g, off, none⟩) n c] 25) = w0 at *
    have HX0 := Lib.hid x0
    have HB0 := Lib.hid b0
    clear x0 b0
    have y0_0 := HX0.out.1
    have y1_0 := HX0.out.2
    have hxa := (HB0.out.cell (by exact hg)).trans hxa
    go_wp2_with fail
    refine (membersOf_any (S &&& winsN xs a) n _ hSW (by omega)).mono ?_
    rintro e w2 ⟨v, rfl, ho, hb2⟩
    obtain ⟨A, d, rfl, hd1, hd2, hl⟩ := memL_cells ho
    unfold maxLen at hd1
    have HL := Lib.hid hl
    have B2 := Lib.hid (Below.then HB0.out hb2)
    have X2 := Lib.hid (HX0.out.below hb2)
    have hm8 := memN_len (S &&& winsN xs a) n
    clear hb2 ho hl HB0 HX0 y0_0 y1_0 hxa hand hfull hq
    generalize memN (S &&& winsN xs a) n = L at *
    generalize hLn : L.length = m at *
    have HLN := Lib.hid hLn
    clear hLn
    have hcard : Hid (0 < m → 0 < (memN S n).length) := fun h => by
      have h1 : L.getD 0 0 ∈ L := by rw [getD_nat (by rw [HLN.out]; exact h)]; exact List.getElem_mem _
      exact List.length_pos_of_mem (HMEM.out _ h1).2
    go_wp2
    go_loopw [7, 31] (fun t i wr => ∃ k : Nat, k ≤ m ∧ i = .int .i64 k ∧ t = .int .i64 (((L.take k).map fun b => cyN xs n f (less S (2 ^ b)) b).sum : Nat) ∧ Below w2.heap.size w2 wr ∧ TBox wr w.heap.size n (.slice (some ⟨g, off, none⟩) n c)) (fun _ i _ => m - (intOf i).toNat)
    case atStart => exact ⟨0, by omega, rfl, by simp, Below.refl _ _, X2.out⟩
    case round =>
      obtain ⟨k, hk, rfl, rfl, hb, hxx⟩ := hrel
      have HB := Lib.hid hb
      have HX := Lib.hid hxx
      have y0_0 := hxx.1
      have y1_0 := hxx.2
      clear hb hxx
      by_cases hlt : k < m
      · have hkl : k < L.length := by rw [HLN.out]; exact hlt
        obtain ⟨g', off', rfl, hg', hz⟩ := HL.out (by omega)
        have hzk := (HB.out.cell (by exact hg')).trans (hz k hlt)
        have hbL : L.getD k 0 ∈ L := by rw [getD_nat hkl]; exact List.getElem_mem hkl
        have hbm := HMEM.out _ hbL
        have hcl := card_less hbm.2
        have hfb := HLE.out _ hbm.2
        have hcl8 := memN_len S n
        have hpow : 8 ^ (memN (less S (2 ^ (L.getD k 0))) n).length ≤ 8 ^ 7 := Nat.pow_le_pow_right (by decide) (by omega)
        have hsum : ((L.take k).map fun b => cyN xs n f (less S (2 ^ b)) b).sum ≤ 8 * 8 ^ 7 := by
          refine Nat.le_trans (sum_le (B := 8 ^ 7) fun b hb => ?_) ?_
          · have h2 := (HMEM.out b (List.mem_of_mem_take hb)).2
            have h3 := card_less h2
            exact Nat.le_trans (HLE.out b h2) (Nat.pow_le_pow_right (by decide) (by omega))
          · exact Nat.mul_le_mul_right _ (by rw [List.length_take]; omega)
        rw [show (8 : Nat) ^ 7 = 2097152 from by decide] at hpow hsum
        have HST := Lib.hid (sum_take (F := fun b => cyN xs n f (less S (2 ^ b)) b) hkl)
        have hless := less_lt (S := S) (b := 2 ^ (L.getD k 0)) HS.out
        have hmore := met_more (S := S) hbm.1
        rw [← HM.out] at hmore
        generalize L.getD k 0 = b at *
        generalize ((L.take k).map fun b => cyN xs n f (less S (2 ^ b)) b).sum = T at *
        have hor := or_shl met b (by omega) (by omega)
        have hF := HF.out
        have k1 := quiet_below (w := wr) (fun W hW => IH.out (less S (2 ^ b)) b (met ||| 2 ^ b) W (((HRD.out.below B2.out).below HB.out).below hW) hbm.1 hless (by omega) hmore)
        have hFb : Hid (cyN xs n f (less S (2 ^ b)) b ≤ 2097152) := Nat.le_trans hfb hpow
        have hFb' := hFb.out
        clear hz hfb hpow hmore hcl
        generalize cyN xs n f (less S (2 ^ b)) b = F at *
        go_wp2_with fail
        have y0_q := cell_regrown y0_0
        have y1_q := cell_regrown y1_0
        clear y0_0 y1_0
        refine wp_region_below (by kernel_rfl) (by kernel_rfl) ?_
        repeat (go_big_quiet_step (first | (with_reducible exact k1 _ _)))
        refine wpQuiet_nil ?_
        intro wq hbq0
        have hbq := Lib.hid hbq0
        clear hbq0
        clear y0_q y1_q
        go_wp2
        go_roundw
        case rel => exact ⟨k + 1, by omega, by go_num, by rw [HST.out]; go_num, Below.then HB.out hbq.out, HX.out.below hbq.out⟩
        case measure => simp [intOf]; omega
      · obtain rfl : k = m := by omega
        rw [show L.take k = L from List.take_of_length_le (by rw [HLN.out]; exact Nat.le_refl _)]
        go_wp2
        go_ret
        exact ⟨ret_int (by rw [HWN.out]), Below.then B2.out HB.out⟩
section
variable {n : Nat} {xs : List Int} {sl : Value} {w : World}
theorem card_but (n a : Nat) (ha : a < n) : (memN (less (2 ^ n - 1) (2 ^ a)) n).length = n - 1 := by
  have h1 : a ∈ memN (2 ^ n - 1) n := mem_memN.2 ⟨ha, by rw [testBit_full]; simpa using ha⟩
  have h2 := card_less h1
  have h3 : (memN (2 ^ n - 1) n) = List.range n := by
    unfold memN
    rw [List.filter_eq_self]
    intro x hx
    rw [testBit_full]; simpa using hx
  rw [h3, List.length_range] at h2
  omega
theorem full_lt' (n : Nat) : 2 ^ n - 1 < 2 ^ n := by have := Nat.one_le_two_pow (n := n); omega
/-- the ways from a through all others -/
def wyA (xs : List Int) (n a : Nat) : Nat := wyQ (bt xs) (fun _ => true) n (n - 1) (less (2 ^ n - 1) (2 ^ a)) a
theorem wyA_ways {a : Nat} (h8 : n ≤ 8) (ha : a < n) : waysN xs n 8 (less (2 ^ n - 1) (2 ^ a)) a = wyA xs n a := by
  rw [waysN_wyQ]
  unfold wyA
  have := card_but n a ha
  exact wyQ_fuel 8 (n - 1) _ a (less_lt (full_lt' n)) (by omega) (by omega)
theorem wyA_le {a : Nat} (h8 : n ≤ 8) (ha : a < n) : wyA xs n a ≤ 2097152 := by
  rw [← wyA_ways h8 ha]
  have h := card_but n a ha
  refine Nat.le_trans (waysN_le xs n h8 8 _ a (by omega)) ?_
  rw [h]
  exact Nat.le_trans (Nat.pow_le_pow_right (by decide) (show n - 1 ≤ 7 by omega)) (by decide)
def wyS (xs : List Int) (n : Nat) : Nat → Nat
  | 0 => 0
  | k + 1 => wyS xs n k + wyA xs n k
theorem wyS_le (h8 : n ≤ 8) : ∀ k, k ≤ n → wyS xs n k ≤ 2097152 * k := by
  intro k
  induction k with
  | zero => intro _; simp [wyS]
  | succ k ih =>
    intro h
    have := ih (by omega)
    have := wyA_le (xs := xs) h8 (show k < n by omega)
    simp only [wyS]
    omega
theorem wyS_sum : ∀ k, wyS xs n k = ((List.range k).map fun a => wyA xs n a).sum := by
  intro k
  induction k with
  | zero => rfl
  | succ k ih => rw [wyS, ih, List.range_succ, List.map_append, List.sum_append]; simp
theorem wyS_cnt (h1 : 1 ≤ n) : wyS xs n n = cntQ (bt xs) (fun _ => true) n := by rw [wyS_sum, cnt_sum h1]; rfl
set_option maxHeartbeats 1000000 in
theorem cFullWays (hp : tourP n xs) (h : Rd w sl xs) : Calls Tryz.prog 9 #[.agg #[.int .i64 n, sl]] w fun e w' => e = .returned (.int .i64 (wyS xs n n : Nat)) ∧ Below w.heap.size w w' := by
  have HR := Lib.hid h
  obtain ⟨A, cA, rfl, -, -, -⟩ := h
  rw [tour_len hp] at *
  have HP := Lib.hid hp
  have h8 : n ≤ 8 := by have := hp.1; omega
  have HSL := Lib.hid (fun k hk => wyS_le (xs := xs) h8 k hk)
  clear hp
  go_enter Tryz.func9, Tryz.ntmps9
  go_wp2_with fail
  have b0 := below_alloc1 w (.cells #[.int .i64 n, .slice A n cA] 25)
  have x0 := TBox.new w n (.slice A n cA) 25
  generalize w.alloc (.cells #[.int .i64 n, .slice A n cA] 25) = w0 at *
  have HX0 := Lib.hid x0
  have HB0 := Lib.hid b0
  clear x0 b0
  have y0_0 := HX0.out.1
  have y1_0 := HX0.out.2
  go_wp2_with fail
  refine (implTourOk n _ xs _ (HR.out.below HB0.out)).mono ?_
  rintro e w1 ⟨rfl, hb⟩
  rw [tourB_true.2 HP.out]
  have HB1 := Lib.hid (Below.then HB0.out hb)
  have HX1 := Lib.hid (HX0.out.below hb)
  clear hb y0_0 y1_0 HX0 HB0
  have y0_1 := HX1.out.1
  have y1_1 := HX1.out.2
  go_wp2
  clear y0_1 y1_1
  go_loopw [3, 10] (fun t3 t10 wr => ∃ (a : Nat), a ≤ n ∧ t10 = .int .i64 a ∧ t3 = .int .i64 (wyS xs n a : Nat) ∧ Hid (TBox wr w.heap.size n (.slice A n cA)) ∧ Hid (Below w.heap.size w wr)) (fun _ t10 _ => n - (intOf t10).toNat)
  case atStart => exact ⟨0, by omega, rfl, rfl, HX1, HB1⟩
  case round =>
    obtain ⟨a, ha, rfl, rfl, HX, HB⟩ := hrel
    clear HX1 HB1
    by_cases hlt : a < n
    · have HST := Lib.hid (show wyS xs n (a + 1) = wyS xs n a + wyA xs n a from rfl)
      have hS := HSL.out a ha
      have hA := wyA_le (xs := xs) h8 hlt
      have k1 := quiet_below (w := wr) (fun W hW => by
        have := countWays_any n (.slice A n cA) xs HP.out 8 (less (2 ^ n - 1) (2 ^ a)) a (2 ^ a) W (HR.out.below (Below.then HB.out hW)) (by rw [tour_len HP.out]; exact hlt) (by rw [tour_len HP.out]; exact less_lt (full_lt' n)) (by rw [tour_len HP.out, card_but n a hlt]; omega) (by rw [tour_len HP.out]; exact less_less hlt)
        rwa [tour_len HP.out, wyA_ways h8 hlt] at this)
      have hsh := shl_nat a (by omega)
      generalize wyS xs n a = T at *
      generalize wyA xs n a = F at *
      generalize (2 ^ a : Nat) = pa at *
      have y0 := cell_regrown HX.out.1
      have y1 := cell_regrown HX.out.2
      go_wp2_with fail
      refine wp_region_below (by kernel_rfl) (by kernel_rfl) ?_
      repeat (go_big_quiet_step (first | (with_reducible exact k1 _ _)))
      refine wpQuiet_nil ?_
      intro wq hbq0
      have HXq := Lib.hid (HX.out.below hbq0)
      have HBq := Lib.hid (Below.then HB.out hbq0)
      clear hbq0 k1 y0 y1
      go_wp2
      go_roundw
      case rel => exact ⟨a + 1, by omega, by go_num, by rw [HST.out]; go_num, HXq, HBq⟩
      case measure => simp [intOf]; omega
    · obtain rfl : a = n := by omega
      go_wp2
      go_ret
      exact ⟨rfl, HB.out⟩
/-- the closed ways from player 0 -/
def cyA (xs : List Int) (n : Nat) : Nat := cntAt (bt xs) n 0 0
theorem cyA_le (hp : tourP n xs) : cyA xs n ≤ 2097152 := by
  have h8 : n ≤ 8 := by have := hp.1; omega
  have h1 : 0 < n := by have := hp.1; omega
  unfold cyA
  rw [cntAt_count h1]
  exact Nat.le_trans (wyQ_le _ _ _) (wyA_le h8 h1)
set_option maxHeartbeats 1000000 in
theorem cFullCycles (hp : tourP n xs) (h : Rd w sl xs) : Calls Tryz.prog 23 #[.agg #[.int .i64 n, sl]] w fun e w' => e = .returned (.int .i64 (cyA xs n : Nat)) ∧ Below w.heap.size w w' := by
  have HR := Lib.hid h
  obtain ⟨A, cA, rfl, -, -, -⟩ := h
  rw [tour_len hp] at *
  have HP := Lib.hid hp
  have h8 : n ≤ 8 := by have := hp.1; omega
  have h1 : 0 < n := by have := hp.1; omega
  have HC : Hid (cyN xs n (n - 1) (less (2 ^ n - 1) (2 ^ 0)) 0 = cyA xs n) := Lib.hid (cntAt_count (r := bt xs) h1).symm
  clear hp
  go_enter Tryz.func23, Tryz.ntmps23
  go_wp2_with fail
  have b0 := below_alloc1 w (.cells #[.int .i64 n, .slice A n cA] 25)
  have x0 := TBox.new w n (.slice A n cA) 25
  generalize w.alloc (.cells #[.int .i64 n, .slice A n cA] 25) = w0 at *
  have HX0 := Lib.hid x0
  have HB0 := Lib.hid b0
  clear x0 b0
  have y0_0 := HX0.out.1
  have y1_0 := HX0.out.2
  go_wp2_with fail
  refine (implTourOk n _ xs _ (HR.out.below HB0.out)).mono ?_
  rintro e w1 ⟨rfl, hb⟩
  rw [tourB_true.2 HP.out]
  have HB1 := Lib.hid (Below.then HB0.out hb)
  have HX1 := Lib.hid (HX0.out.below hb)
  clear hb y0_0 y1_0 HX0 HB0
  have y0_1 := HX1.out.1
  have y1_1 := HX1.out.2
  go_wp2_with fail
  have hc := countCycles_any n (.slice A n cA) xs HP.out (n - 1) (less (2 ^ n - 1) (2 ^ 0)) 0 1 w1 (HR.out.below HB1.out) (by rw [tour_len HP.out]; exact h1) (by rw [tour_len HP.out]; exact less_lt (full_lt' n)) (by rw [tour_len HP.out, card_but n 0 h1]; omega) (by rw [tour_len HP.out]; exact less_less h1)
  rw [tour_len HP.out, HC.out] at hc
  refine hc.mono ?_
  rintro e w2 ⟨rfl, hb⟩
  have HB2 := Lib.hid (Below.then HB1.out hb)
  clear hb hc
  go_wp2
  go_ret
  exact ⟨rfl, HB2.out⟩
end
end Go.Proofs.YtbkiedhaacapbaaGreat

namespace Go.Proofs.YtbkiedhaacapbaaGreat
open Go.RowKit Go.Sort
set_option maxRecDepth 100000
/-- the first of all ways -/
def ffD (xs : List Int) (n a : Nat) : Option (List Nat) := dfs xs n (fun _ => true) (n - 1) [a]
def ffN (xs : List Int) (n : Nat) : List Nat := ((List.range n).findSome? (ffD xs n)).getD []
theorem ff_hit {xs : List Int} {n a : Nat} {L : List Nat} (ha : a < n) (h0 : ∀ j, j < a → ffD xs n j = none) (h : ffD xs n a = some L) : ffN xs n = L := by
  unfold ffN
  have e : ∀ j, j < n → (List.range n).getD j 0 = j := fun j hj => by simp [List.getD_eq_getElem?_getD, hj]
  rw [fs_hit (F := ffD xs n) (k := a) (y := L) (by rw [List.length_range]; exact ha) (fun j hj => by rw [e j (by omega)]; exact h0 j hj) (by rw [e a ha]; exact h)]
  rfl
theorem ff_miss {xs : List Int} {n : Nat} (h0 : ∀ j, j < n → ffD xs n j = none) : ffN xs n = [] := by
  unfold ffN
  have e : ∀ j, j < n → (List.range n).getD j 0 = j := fun j hj => by simp [List.getD_eq_getElem?_getD, hj]
  rw [fs_miss (F := ffD xs n) fun j hj => by rw [List.length_range] at hj; rw [e j hj]; exact h0 j hj]
  rfl
section
variable {n : Nat} {xs : List Int} {sl : Value} {w : World}
theorem ff1_any (v : Value) (W : World) : Calls Tryz.prog 45 #[v] W fun e w' => e = .returned (.bool true) ∧ Below W.heap.size W w' := by
  go_enter Tryz.func45, Tryz.ntmps45
  go_wp2
  go_ret
  exact ⟨rfl, Below.refl _ _⟩
theorem enters_ff1 : Enters 45 := fun _ _ => by kernel_rfl
set_option maxHeartbeats 2000000 in
theorem cFirstWay (hp : tourP n xs) (h : Rd w sl xs) : Calls Tryz.prog 18 #[.agg #[.int .i64 n, sl]] w fun e w' => ∃ v', e = .returned v' ∧ Own w' w.heap.size v' (nI (ffN xs n)) ∧ Below w.heap.size w w' := by
  have HR := Lib.hid h
  obtain ⟨A, cA, rfl, -, -, -⟩ := h
  rw [tour_len hp] at *
  have HP := Lib.hid hp
  have h8 : n ≤ 8 := by have := hp.1; omega
  have h1 : 1 ≤ n := by have := hp.1; omega
  have qT : ∀ (w : World) (a : Option Addr) (n c n' c' : Nat), (binOp .neq 23 (.slice a n c) (.slice none n' c')).run Tryz.prog w = .ok (.bool (!a.isNone)) w := fun w a n c n' c' => run_neq_slice_nil w _ _ a n c n' c' Tryz.underlying23
  have HLN := Lib.hid (tour_len hp)
  clear hp
  go_enter Tryz.func18, Tryz.ntmps18
  go_wp2_with fail
  have b0 := below_alloc1 w (.cells #[.int .i64 n, .slice A n cA] 25)
  have x0 := TBox.new w n (.slice A n cA) 25
  generalize w.alloc (.cells #[.int .i64 n, .slice A n cA] 25) = w0 at *
  have HX0 := Lib.hid x0
  have HB0 := Lib.hid b0
  clear x0 b0
  have y0_0 := HX0.out.1
  have y1_0 := HX0.out.2
  go_wp2_with fail
  refine (implTourOk n _ xs _ (HR.out.below HB0.out)).mono ?_
  rintro e w1 ⟨rfl, hb⟩
  rw [tourB_true.2 HP.out]
  have HB1 := Lib.hid (Below.then HB0.out hb)
  have HX1 := Lib.hid (HX0.out.below hb)
  clear hb y0_0 y1_0 HX0 HB0
  have y0_1 := HX1.out.1
  have y1_1 := HX1.out.2
  go_wp2
  clear y0_1 y1_1
  go_loopw [10] (fun t10 wr => ∃ (a : Nat), a ≤ n ∧ t10 = .int .i64 a ∧ Hid (∀ j, j < a → ffD xs n j = none) ∧ Hid (TBox wr w.heap.size n (.slice A n cA)) ∧ Hid (Below w.heap.size w wr)) (fun t10 _ => n - (intOf t10).toNat)
  case atStart => exact ⟨0, by omega, rfl, Lib.hid (fun j hj => absurd hj (by omega)), HX1, HB1⟩
  case round =>
    obtain ⟨wo, rfl⟩ : ∃ x, x = wr := ⟨_, rfl⟩
    obtain ⟨a, ha, rfl, HN, HX, HB⟩ := hrel
    clear HX1 HB1
    by_cases hlt : a < n
    · have y0 := HX.out.1
      have y1 := HX.out.2
      have bb := below_alloc1 wo (.cells #[.int .i64 a] 3)
      have ya0 := (HX.out.below bb).1
      have ya1 := (HX.out.below bb).2
      have HOL := Lib.hid (show Own (wo.alloc (.cells #[.int .i64 a] 3)) wo.heap.size (.slice (some ⟨wo.heap.size, 0, none⟩) 1 1) (nI [a]) from Own.lit wo wo.heap.size [(a : Int)] (Nat.le_refl _) (by simp))
      have HW : WantP 45 #[] (fun _ => true) n xs.length wo := fun way v W hl hx hB hr => ff1_any v W
      have HWW := Lib.hid HW
      clear HW bb
      go_wp2_with fail
      refine (wayOn_any n _ xs HP.out 45 _ enters_ff1 (fun _ => true) n wo (HR.out.below HB.out) HWW.out (by omega) (n - 1) [a] wo.heap.size _ _ (below_alloc1 _ _) (Nat.le_refl _) (by simp) HOL.out (by simp) (by simp; omega) (fun x hx => by simp at hx; rw [HLN.out]; omega)).mono ?_
      rintro e w3 ⟨v3, rfl, hs3, hn3, hg3, -⟩
      have HB3 := Lib.hid (Below.then HB.out (below_of_grown (below_alloc1 wo _) hg3 (fun x hx => by injection hx with hx; exact Nat.le_of_eq hx)))
      have HX3 := Lib.hid (HX.out.below (below_of_grown (below_alloc1 wo _) hg3 (fun x hx => by injection hx with hx; exact Nat.le_of_eq hx)))
      clear hg3
      rw [HLN.out] at hs3 hn3
      rcases hd : dfs xs n (fun _ => true) (n - 1) [a] with _ | L
      · have := hn3 hd
        subst this
        have HN2 := Lib.hid (show ∀ j, j < a + 1 → ffD xs n j = none from fun j hj => by
          by_cases e : j = a
          · subst e; exact hd
          · exact HN.out j (by omega))
        clear hd hs3 hn3
        go_wp2
        go_roundw
        case rel => exact ⟨a + 1, by omega, by go_num, HN2, HX3, HB3⟩
        case measure => simp [intOf]; omega
      · obtain ⟨⟨g, c3, rfl⟩, ho⟩ := hs3 L hd
        have HO3 := Lib.hid (ho.mono (show w.heap.size ≤ _ by have := HB.out.size; simp; omega))
        have HF := Lib.hid (ff_hit hlt HN.out hd)
        clear hs3 hn3 ho hd
        go_wp2
        go_ret
        exact ⟨_, rfl, by rw [HF.out]; exact HO3.out, HB3.out⟩
    · obtain rfl : a = n := by omega
      have HF := Lib.hid (ff_miss HN.out)
      go_wp2
      go_ret
      exact ⟨_, rfl, by rw [HF.out]; exact Own.nil_ _ _, HB.out⟩
/-- a player is put ahead of the first one whom it beats -/
def fwAt (xs : List Int) (out : List Int) (a : Nat) : Nat := match out.findIdx? fun b => bt xs a b.toNat with | some k => k | none => out.length
def fwS (xs : List Int) (out : List Int) (a : Nat) : List Int := out.take (fwAt xs out a) ++ (a : Int) :: out.drop (fwAt xs out a)
def fwL (xs : List Int) : Nat → List Int
  | 0 => []
  | k + 1 => fwS xs (fwL xs k) k
theorem fwAt_le (xs out : List Int) (a : Nat) : fwAt xs out a ≤ out.length := by
  unfold fwAt
  split
  · rename_i k h
    have := List.findIdx?_eq_some_iff_getElem.1 h
    exact Nat.le_of_lt this.1
  · exact Nat.le_refl _
theorem fwS_len (xs out : List Int) (a : Nat) : (fwS xs out a).length = out.length + 1 := by
  have := fwAt_le xs out a
  unfold fwS
  simp; omega
theorem fwL_len (xs : List Int) : ∀ k, (fwL xs k).length = k := by
  intro k
  induction k with
  | zero => rfl
  | succ k ih => rw [fwL, fwS_len, ih]
theorem fwL_mem (xs : List Int) : ∀ k, ∀ x ∈ fwL xs k, 0 ≤ x ∧ x < k := by
  intro k
  induction k with
  | zero => intro x hx; cases hx
  | succ k ih =>
    intro x hx
    rw [fwL, fwS] at hx
    rcases List.mem_append.1 hx with h | h
    · have := ih x (List.mem_of_mem_take h); omega
    · rcases List.mem_cons.1 h with h | h
      · subst h; omega
      · have := ih x (List.mem_of_mem_drop h); omega
end
end Go.Proofs.YtbkiedhaacapbaaGreat

namespace Go.Proofs.YtbkiedhaacapbaaGreat
open Go.RowKit Go.Sort
set_option maxRecDepth 100000
/-! the number of ways is odd -/
theorem xorS_bit {g : Nat → Nat} {p : Nat → Bool} {F : Nat → Nat} {j : Nat} : ∀ k, (∀ b, b < k → (g b).testBit j = (p b && decide (F b % 2 = 1))) → (xorS g k).testBit j = decide ((((List.range k).filter p).map F).sum % 2 = 1) := by
  intro k
  induction k with
  | zero => intro _; simp [xorS]
  | succ k ih =>
    intro h
    rw [xorS, Nat.testBit_xor, ih fun b hb => h b (by omega), h k (by omega), List.range_succ, List.filter_append, List.map_append, List.sum_append]
    generalize (((List.range k).filter p).map F).sum = s
    rw [List.filter_cons, List.filter_nil]
    rcases p k with _ | _
    · simp
    · simp only [if_true, List.map_cons, List.map_nil, List.sum_cons, List.sum_nil, Bool.true_and]
      rcases Nat.mod_two_eq_zero_or_one s with h1 | h1 <;> rcases Nat.mod_two_eq_zero_or_one (F k) with h2 | h2 <;> (rw [h1, h2, show (s + (F k + 0)) % 2 = (s % 2 + F k % 2) % 2 by omega, h1, h2]; decide)
theorem slX_bit {R : Nat → Nat → Nat} {one n j : Nat} (h1 : one.testBit j = true) : ∀ f S a, S < 2 ^ n → (memN S n).length = f → (slX R one n f S a).testBit j = decide (wyQ (fun a b => (R a b).testBit j) (fun _ => true) n f S a % 2 = 1) := by
  intro f
  induction f with
  | zero => intro S a _ _; rw [slX, wyQ, h1]; rfl
  | succ f ih =>
    intro S a hS hf
    have h0 : S ≠ 0 := fun e => by
      rw [(card_zero hS).2 e] at hf; omega
    rw [slX, wyQ, if_neg h0]
    refine xorS_bit n fun b hb => ?_
    rcases q : S.testBit b with _ | _
    · simp
    · have hc := card_less (mem_memN.2 ⟨hb, q⟩)
      rw [if_pos rfl, Nat.testBit_and, ih _ b (less_lt hS) (by omega), Bool.true_and]
theorem wyQ_congr {r s : Nat → Nat → Bool} {n : Nat} (h : ∀ a b, a < n → b < n → s a b = r a b) : ∀ f S a, a < n → wyQ s (fun _ => true) n f S a = wyQ r (fun _ => true) n f S a := by
  intro f
  induction f with
  | zero => intro S a _; rfl
  | succ f ih =>
    intro S a ha
    rw [wyQ, wyQ]
    split
    · rfl
    · have e : ((List.range n).filter fun b => S.testBit b && s a b) = (List.range n).filter fun b => S.testBit b && r a b := List.filter_congr fun b hb => by rw [h a b ha (List.mem_range.1 hb)]
      rw [e]
      congr 1
      refine List.map_congr_left fun b hb => ?_
      rw [List.mem_filter, List.mem_range] at hb
      exact ih _ b hb.1
theorem kind_odd {n j : Nat} (h1 : 1 ≤ n) (h7 : n ≤ 7) (hj : j < rc n) : cntQ (bN (rp n j)) (fun _ => true) n % 2 = 1 := by
  have hall := slX_all n (by omega) h1
  rw [beq_iff_eq] at hall
  have hb := congrArg (fun z => z.testBit j) hall
  simp only [testBit_full, decide_eq_true hj] at hb
  have hone : (2 ^ rc n - 1).testBit j = true := by rw [testBit_full]; simpa using hj
  rw [xorS_bit (p := fun _ => true) (F := fun a => wyQ (bN (rp n j)) (fun _ => true) n (n - 1) (less (2 ^ n - 1) (2 ^ a)) a) n fun a ha => by
    rw [slX_bit hone (n - 1) _ a (less_lt (full_lt' n)) (card_but n a ha), Bool.true_and]
    have := wyQ_congr (r := bN (rp n j)) (s := fun a b => (slR n a b).testBit j) (n := n) (fun x y hx hy => by
      have h2 := List.all_eq_true.1 (List.all_eq_true.1 (List.all_eq_true.1 (slR_all n (by omega)) x (List.mem_range.2 hx)) y (List.mem_range.2 hy)) j (List.mem_range.2 hj)
      rwa [beq_iff_eq] at h2) (n - 1) (less (2 ^ n - 1) (2 ^ a)) a ha
    rw [this]] at hb
  rw [decide_eq_true_eq, List.filter_eq_self.2 (fun _ _ => rfl)] at hb
  rw [cnt_sum h1]
  exact hb
section
variable {n : Nat} {xs : List Int}
theorem ways_odd (hp : tourP n xs) (h7 : n ≤ 7) : wyS xs n n % 2 = 1 := by
  have h1 : 1 ≤ n := by have := hp.1; omega
  obtain ⟨j, hj, f, f1, f2, f3, f4⟩ := kind_f hp h7
  rw [wyS_cnt h1, cnt_rename (r := bN (rp n j)) (s := bt xs) f1 f2 f4]
  exact kind_odd h1 h7 hj
/-! reversed and renamed -/
theorem turn_counts (hp : tourP n xs) : wyS (trnL xs n) n n = wyS xs n n ∧ cyA (trnL xs n) n = cyA xs n := by
  have h1 : 1 ≤ n := by have := hp.1; omega
  have hb := fun a b (ha : a < n) (hb : b < n) => trnL_bt hp ha hb
  constructor
  · rw [wyS_cnt h1, wyS_cnt h1]
    exact cnt_reverse hb
  · have e := cntC_reverse h1 hb
    rw [← cntC_at (r := bt (trnL xs n)) (s := 0) h1, ← cntC_at (r := bt xs) (s := 0) h1] at e
    exact Nat.eq_of_mul_eq_mul_left h1 e
theorem rename_counts (hp : tourP n xs) {q : List Int} (hq : PermP n q) : tourP n (rnL xs q) ∧ wyS (rnL xs q) n n = wyS xs n n ∧ cyA (rnL xs q) n = cyA xs n := by
  have h1 : 1 ≤ n := by have := hp.1; omega
  have hln := tour_len hp
  have hpr : tourP n (rnL xs q) := rn_tour hp (by rw [hln]; exact hq)
  obtain ⟨ns, hns, rfl⟩ := perm_of hq
  obtain ⟨o1, o2, o3⟩ := ord_at hns
  have hnm : ∀ a, a < n → nmN (nI ns) a = ns.getD a 0 := fun a ha => by
    unfold nmN
    rw [nI_getD (by rw [(mem_ordL.1 hns).1]; exact ha)]
    simp
  have hb : ∀ a b, a < n → b < n → bt (rnL xs (nI ns)) (ns.getD a 0) (ns.getD b 0) = bt xs a b := fun a b ha hb => by
    have := rn_bit hln hq ha hb
    rwa [hnm a ha, hnm b hb] at this
  refine ⟨hpr, ?_, ?_⟩
  · rw [wyS_cnt h1, wyS_cnt h1]
    exact cnt_rename o1 o2 hb
  · have e := cntC_rename (f := fun a => ns.getD a 0) h1 o1 o2 hb
    rw [← cntC_at (r := bt (rnL xs (nI ns))) (s := 0) h1, ← cntC_at (r := bt xs) (s := 0) h1] at e
    exact Nat.eq_of_mul_eq_mul_left h1 e
/-! a way through all players by putting each ahead of the first one whom it beats -/
theorem ins_getD {l : List Nat} {i k : Nat} (hi : i ≤ l.length) (j : Nat) : (l.take i ++ k :: l.drop i).getD j 0 = if j < i then l.getD j 0 else if j = i then k else l.getD (j - 1) 0 := by
  have ht : (l.take i).length = i := by rw [List.length_take]; omega
  by_cases h : j < i
  · rw [if_pos h, getD_app_lt (by omega)]
    simp [List.getD_eq_getElem?_getD, h]
  · rw [if_neg h, getD_app_ge (by omega), ht]
    by_cases h2 : j = i
    · rw [if_pos h2, h2, Nat.sub_self]; rfl
    · rw [if_neg h2, show j - i = (j - i - 1) + 1 by omega]
      show (l.drop i).getD (j - i - 1) 0 = _
      simp only [List.getD_eq_getElem?_getD, List.getElem?_drop]
      rw [show i + (j - i - 1) = j - 1 by omega]
theorem fw_okW (hp : tourP n xs) : ∀ k, k ≤ n → ∃ l, fwL xs k = nI l ∧ l.length = k ∧ l.Nodup ∧ (∀ x ∈ l, x < k) ∧ ∀ i, i + 1 < l.length → bt xs (l.getD i 0) (l.getD (i + 1) 0) = true := by
  intro k
  induction k with
  | zero => intro _; exact ⟨[], rfl, rfl, by simp, by simp, fun i hi => by simp at hi⟩
  | succ k ih =>
    intro hk
    obtain ⟨l, e, hl, hnd, hm, hch⟩ := ih (by omega)
    obtain ⟨i, hi⟩ : ∃ i, i = fwAt xs (nI l) k := ⟨_, rfl⟩
    have hil : i ≤ l.length := by rw [hi]; have := fwAt_le xs (nI l) k; rwa [nI_len] at this
    have hml : ∀ j, j < l.length → l.getD j 0 < k := fun j hj => hm _ (by rw [getD_nat hj]; exact List.getElem_mem _)
    -- who stands ahead is not beaten by k; who stands at i is
    have hpre : ∀ j, j < i → bt xs k (l.getD j 0) = false := fun j hj => by
      have hjl : j < l.length := by omega
      unfold fwAt at hi
      split at hi
      · rename_i p hp2
        obtain ⟨h1, h2, h3⟩ := List.findIdx?_eq_some_iff_getElem.1 hp2
        have := h3 j (by omega)
        unfold nI at this
        rw [List.getElem_map, Int.toNat_natCast] at this
        rw [getD_nat hjl]
        simpa using this
      · rename_i hp2
        rw [List.findIdx?_eq_none_iff] at hp2
        have := hp2 ((l[j] : Nat) : Int) (by unfold nI; exact List.mem_map.2 ⟨l[j], List.getElem_mem _, rfl⟩)
        rw [Int.toNat_natCast] at this
        rw [getD_nat hjl]
        simpa using this
    have hat : i < l.length → bt xs k (l.getD i 0) = true := fun hlt => by
      unfold fwAt at hi
      split at hi
      · rename_i p hp2
        obtain ⟨h1, h2, h3⟩ := List.findIdx?_eq_some_iff_getElem.1 hp2
        have h1l : p < l.length := by rw [nI_len] at h1; exact h1
        have e3 : (nI l)[p]'h1 = ((l[p]'h1l : Nat) : Int) := by simp [nI]
        rw [e3, Int.toNat_natCast] at h2
        rw [hi, getD_nat h1l]
        exact h2
      · rw [nI_len] at hi; omega
    refine ⟨l.take i ++ k :: l.drop i, ?_, by simp; omega, ?_, fun x hx => ?_, fun j hj => ?_⟩
    · rw [fwL, e, fwS, ← hi]
      unfold nI
      rw [List.map_append, List.map_cons, List.map_take, List.map_drop]
    · have hperm : (l.take i ++ k :: l.drop i).Perm (k :: l) := by
        have := List.perm_middle (a := k) (l₁ := l.take i) (l₂ := l.drop i)
        rwa [List.take_append_drop] at this
      refine hperm.symm.nodup ?_
      rw [List.nodup_cons]
      exact ⟨fun h => by have := hm k h; omega, hnd⟩
    · rcases List.mem_append.1 hx with h | h
      · have := hm x (List.mem_of_mem_take h); omega
      · rcases List.mem_cons.1 h with h | h
        · omega
        · have := hm x (List.mem_of_mem_drop h); omega
    · have hlen : (l.take i ++ k :: l.drop i).length = l.length + 1 := by simp; omega
      rw [hlen] at hj
      rw [ins_getD hil, ins_getD hil]
      by_cases h1 : j + 1 < i
      · rw [if_pos (show j < i by omega), if_pos h1]
        exact hch j (by omega)
      · by_cases h2 : j + 1 = i
        · rw [if_pos (show j < i by omega), if_neg h1, if_pos h2]
          have hj2 : j < l.length := by omega
          have hlk := hml j hj2
          rw [(tr_bit hp (show l.getD j 0 < n by omega) (show k < n by omega)).2 (by omega), hpre j (by omega)]; rfl
        · by_cases h3 : j = i
          · rw [if_neg (show ¬ j < i by omega), if_pos h3, if_neg h1, if_neg h2, show j + 1 - 1 = i by omega]
            exact hat (by omega)
          · rw [if_neg (show ¬ j < i by omega), if_neg h3, if_neg h1, if_neg h2]
            have := hch (j - 1) (by omega)
            rwa [show j - 1 + 1 = j + 1 - 1 by omega] at this
theorem fw_way (hp : tourP n xs) : ∃ l, fwL xs n = nI l ∧ l.length = n ∧ okW xs n l := by
  obtain ⟨l, e, hl, h1, h2, h3⟩ := fw_okW hp n (Nat.le_refl _)
  exact ⟨l, e, hl, h1, h2, h3⟩
/-! the first way -/
/-- L is M, or ahead of it -/
def leN (L M : List Nat) : Prop := L = M ∨ ∃ j, j < L.length ∧ j < M.length ∧ (∀ i, i < j → L.getD i 0 = M.getD i 0) ∧ L.getD j 0 < M.getD j 0
theorem leN_bef {L M : List Nat} (h : leN L M) : befI (nI M) (nI L) = false := by
  rcases h with rfl | ⟨j, h1, h2, h3, h4⟩
  · exact befI_end (Nat.le_refl _) fun _ _ => rfl
  · rw [befI_at (k := j) (by rw [nI_len]; exact h2) (by rw [nI_len]; exact h1) (fun i hi => by rw [nI_getD (by omega), nI_getD (by omega), h3 i hi]) (by rw [nI_getD h2, nI_getD h1]; omega), nI_getD h2, nI_getD h1]
    exact decide_eq_false (by omega)
theorem cand_sorted (xs : List Int) (n : Nat) (way : List Nat) : (cand xs n way).Pairwise (· < ·) := by
  unfold cand memN
  exact List.Pairwise.filter _ (List.Pairwise.filter _ List.pairwise_lt_range)
theorem dfs_first {want : List Nat → Bool} : ∀ {m : Nat} {way L suf : List Nat}, dfs xs n want m way = some L → okW xs n (way ++ suf) → way ≠ [] → want (way ++ suf) = true → suf.length = m → leN L (way ++ suf) := by
  intro m
  induction m with
  | zero =>
    intro way L suf h _ _ _ hl
    have : suf = [] := List.eq_nil_of_length_eq_zero hl
    subst this
    rw [dfs] at h
    split at h
    · injection h with h; left; rw [List.append_nil, h]
    · cases h
  | succ m ih =>
    intro way L suf h hw hne hwant hl
    obtain ⟨b', suf, rfl⟩ : ∃ b t, suf = b :: t := by
      cases suf with
      | nil => cases hl
      | cons b t => exact ⟨b, t, rfl⟩
    have e : way ++ b' :: suf = (way ++ [b']) ++ suf := by simp
    have hl2 : suf.length = m := by simpa using hl
    rw [e] at hw hwant
    obtain ⟨L', hL'⟩ := dfs_complete hw (by simp) hwant hl2
    have h0 : 0 < way.length := List.length_pos_iff.2 hne
    have hw2 := okW_take hw
    have hb' : b' ∈ cand xs n way := by
      refine cand_mem.2 ⟨hw2.2.1 b' (by simp), ?_, fun h => ?_⟩
      · have := hw2.2.2 (way.length - 1) (by rw [List.length_append, List.length_singleton]; omega)
        rw [getD_app_lt (by omega), show way.length - 1 + 1 = way.length by omega, getD_app_ge (Nat.le_refl _), Nat.sub_self] at this
        exact this
      · exact (List.nodup_append.1 hw2.1).2.2 b' h b' (by simp) rfl
    rw [dfs] at h
    obtain ⟨l1, b, l2, hc, hb, hpre⟩ := List.findSome?_eq_some_iff.1 h
    have hsort := cand_sorted xs n way
    rw [hc] at hsort hb'
    rcases List.mem_append.1 hb' with h1 | h1
    · rw [hpre b' h1] at hL'; cases hL'
    · rcases List.mem_cons.1 h1 with h2 | h2
      · subst h2
        rw [e]
        exact ih hb hw (by simp) hwant hl2
      · have hlt : b < b' := (List.pairwise_cons.1 (List.pairwise_append.1 hsort).2.1).1 b' h2
        have hbm : b ∈ cand xs n way := by rw [hc]; simp
        obtain ⟨b1, b2, b3⟩ := cand_mem.1 hbm
        obtain ⟨-, -, hlen, sf, hLs⟩ := dfs_sound hb (okW_snoc (okW_take hw2) hne b1 b3 b2) (by simp)
        right
        refine ⟨way.length, ?_, by simp, fun i hi => ?_, ?_⟩
        · rw [hLs, List.length_append, List.length_append, List.length_singleton]
          omega
        · rw [hLs, getD_app_lt (by simp; omega), getD_app_lt hi, getD_app_lt hi]
        · rw [hLs, getD_app_lt (by simp), getD_app_ge (Nat.le_refl _), getD_app_ge (Nat.le_refl _), Nat.sub_self]
          exact hlt
theorem ff_law (hp : tourP n xs) : (ffN xs n).length = n ∧ okW xs n (ffN xs n) ∧ (∀ M : List Nat, M.length = n → okW xs n M → leN (ffN xs n) M) ∧ ∀ a, a < n → (∃ L, ffD xs n a = some L) → (ffN xs n).getD 0 0 ≤ a := by
  have h1 : 1 ≤ n := by have := hp.1; omega
  have hdec : ∀ M : List Nat, M.length = n → okW xs n M → ∃ a suf, M = a :: suf ∧ suf.length = n - 1 ∧ a < n ∧ ∃ L, ffD xs n a = some L := fun M hM hok => by
    cases M with
    | nil => simp at hM; omega
    | cons a suf =>
      have hs : suf.length = n - 1 := by simp at hM; omega
      exact ⟨a, suf, rfl, hs, hok.2.1 a (by simp), dfs_complete (way := [a]) (suf := suf) hok (by simp) rfl hs⟩
  obtain ⟨l, -, hl, hok⟩ := fw_way hp
  obtain ⟨a0, suf0, -, -, ha0, L0, hL0⟩ := hdec l hl hok
  rcases q : (List.range n).findSome? (ffD xs n) with _ | L
  · rw [List.findSome?_eq_none_iff] at q
    rw [q a0 (List.mem_range.2 ha0)] at hL0
    cases hL0
  · obtain ⟨l1, a, l2, hc, ha, hpre⟩ := List.findSome?_eq_some_iff.1 q
    have hN : ffN xs n = L := by unfold ffN; rw [q]; rfl
    have han : a < n := List.mem_range.1 (by rw [hc]; simp)
    obtain ⟨s1, -, s3, sf, s4⟩ := dfs_sound ha (okW_one han) (by simp)
    have hsort : (List.range n).Pairwise (· < ·) := List.pairwise_lt_range
    have hfirst : ∀ b, b < n → (∃ L, ffD xs n b = some L) → a ≤ b := fun b hb ⟨L', hL'⟩ => by
      have hbm : b ∈ List.range n := List.mem_range.2 hb
      rw [hc] at hbm hsort
      rcases List.mem_append.1 hbm with h | h
      · rw [hpre b h] at hL'; cases hL'
      · rcases List.mem_cons.1 h with h | h
        · omega
        · exact Nat.le_of_lt ((List.pairwise_cons.1 (List.pairwise_append.1 hsort).2.1).1 b h)
    have hhead : L.getD 0 0 = a := by rw [s4]; rfl
    rw [hN]
    refine ⟨by rw [s3]; simp; omega, s1, fun M hM hokM => ?_, fun b hb hex => by rw [hhead]; exact hfirst b hb hex⟩
    obtain ⟨b, suf, rfl, hsl, hb, L', hL'⟩ := hdec M hM hokM
    have hle := hfirst b hb ⟨L', hL'⟩
    by_cases e : a = b
    · subst e
      exact dfs_first (way := [a]) (suf := suf) ha hokM (by simp) rfl hsl
    · right
      refine ⟨0, by rw [s3]; simp; omega, by simp, fun i hi => by omega, ?_⟩
      rw [hhead]
      show a < b
      omega
theorem okW_of {l : List Nat} (hl : l ∈ ordL n) (hw : way (bt xs) l = true) : okW xs n l := by
  obtain ⟨-, h2, h3⟩ := mem_ordL.1 hl
  exact ⟨h3, h2, (way_iff _ _).1 hw⟩
theorem wyA_pos {a : Nat} (ha : a < n) (h : 0 < wyA xs n a) : ∃ L, ffD xs n a = some L := by
  have hc := count_from (r := bt xs) (Q := fun _ => true) (n - 1) [a] (by simp) (by simp) (fun x hx => by simp at hx; subst hx; exact ha) (by simp; omega)
  rw [if_pos (show way (bt xs) [a] = true from rfl), setW_one] at hc
  have hc : _ = wyA xs n a := hc
  rw [← hc, List.countP_pos_iff] at h
  obtain ⟨l, hl, hw⟩ := h
  obtain ⟨suf, rfl, h1, h2, h3⟩ := (mem_ordFrom (by simp)).1 hl
  have hord : [a] ++ suf ∈ ordL n := mem_ordL.2 ⟨by simp; omega, fun x hx => by
    rcases List.mem_append.1 hx with h | h
    · simp at h; subst h; exact ha
    · exact h2 x h, h3⟩
  rw [Bool.and_true] at hw
  exact dfs_complete (okW_of hord hw) (by simp) rfl h1
/-! cycles -/
theorem clo_strong (hp : tourP n xs) {l : List Nat} (hl : l ∈ ordL n) (hc : clo2 (bt xs) l = true) : strP xs n := by
  have hln := tour_len hp
  have h1 : 1 ≤ n := by have := hp.1; omega
  obtain ⟨o1, o2, o3⟩ := ord_at hl
  obtain ⟨m1, m2, m3⟩ := mem_ordL.1 hl
  unfold clo2 at hc
  rw [Bool.and_eq_true] at hc
  obtain ⟨hw, hcl⟩ := hc
  have hw := (way_iff _ _).1 hw
  intro a ha
  obtain ⟨i, hi, ei⟩ := o3 a ha
  have hr := reach_facts hp (a := a) (by rw [hln]; exact ha)
  have key : ∀ t, (reachN xs a).testBit (l.getD ((i + t) % n) 0) = true := by
    intro t
    induction t with
    | zero => rw [Nat.add_zero, Nat.mod_eq_of_lt hi, ei]; exact hr.1
    | succ t ih =>
      refine hr.2.1 _ _ ih ?_
      have hlt := Nat.mod_lt (i + t) h1
      by_cases e : (i + t) % n + 1 = n
      · have e2 : (i + (t + 1)) % n = 0 := by
          rw [← Nat.add_assoc, Nat.add_mod, show (i + t) % n = n - 1 by omega]
          by_cases hn : n = 1
          · subst hn; rfl
          · rw [Nat.mod_eq_of_lt (show 1 < n by omega), show n - 1 + 1 = n by omega, Nat.mod_self]
        rw [e2, ← headD_getD, show (i + t) % n = l.length - 1 by omega]
        exact hcl
      · have e2 : (i + (t + 1)) % n = (i + t) % n + 1 := by
          rw [← Nat.add_assoc, Nat.add_mod]
          rw [Nat.mod_eq_of_lt (show 1 < n by omega), Nat.mod_eq_of_lt (by omega)]
        rw [e2]
        exact hw _ (by omega)
  refine full_all (by rw [← hln]; exact hr.2.2.2) fun b hb => ?_
  obtain ⟨k, hk, ek⟩ := o3 b hb
  have := key (k + n - i)
  rwa [show i + (k + n - i) = k + n by omega, Nat.add_mod_right, Nat.mod_eq_of_lt hk, ek] at this
theorem cyc_strong (hp : tourP n xs) (h3 : 3 ≤ n) (h7 : n ≤ 7) : 0 < cyA xs n ↔ strP xs n := by
  have h1 : 0 < n := by omega
  have he := cntC_at (r := bt xs) (s := 0) h1
  have hz : 0 < cyA xs n ↔ 0 < cntC (bt xs) n := by
    rw [← he]
    unfold cyA
    constructor
    · intro h; exact Nat.mul_pos h1 h
    · intro h; exact Nat.pos_of_mul_pos_left h
  rw [hz]
  unfold cntC
  rw [List.countP_pos_iff]
  constructor
  · rintro ⟨l, hl, hc⟩; exact clo_strong hp hl hc
  · intro hs
    obtain ⟨l, hl, hok, hlast⟩ := ham_ex hp h3 h7 hs
    refine ⟨l, mem_ordL.2 ⟨hl, hok.2.1, hok.1⟩, ?_⟩
    unfold clo2
    rw [Bool.and_eq_true, headD_getD]
    exact ⟨(way_iff _ _).2 hok.2.2, hlast⟩
theorem half_way (hp : tourP n xs) (k : Nat) : wayB n xs ((fwL xs n).take k) = true := by
  obtain ⟨l, e, hl, hok⟩ := fw_way hp
  rw [e]
  have : (nI l).take k = nI (l.take k) := by unfold nI; rw [List.map_take]
  rw [this]
  refine okW_way hp (okW_take (m := l.drop k) ?_)
  rwa [List.take_append_drop]
theorem long_way (_hp : tourP n xs) (x : Int) : wayB n xs (fwL xs n ++ [x]) = false := wayB_long (by rw [List.length_append, fwL_len]; simp; omega)
end
end Go.Proofs.YtbkiedhaacapbaaGreat

namespace Go.Proofs.YtbkiedhaacapbaaGreat
open Go.RowKit Go.Sort
set_option maxRecDepth 100000
theorem rev_zero {r : Nat → Nat → Bool} : ∀ {l : List Nat}, revN r l = 0 ↔ l.Pairwise fun a b => r b a = false := by
  intro l
  induction l with
  | nil => simp [revN]
  | cons a l ih =>
    rw [revN, List.pairwise_cons, ← ih]
    constructor
    · intro h
      have h1 : (l.countP fun b => r b a) = 0 := by omega
      rw [List.countP_eq_zero] at h1
      exact ⟨fun b hb => by simpa using h1 b hb, by omega⟩
    · rintro ⟨h1, h2⟩
      have : (l.countP fun b => r b a) = 0 := List.countP_eq_zero.2 fun b hb => by simp [h1 b hb]
      omega
variable {n : Nat} {xs : List Int}
theorem bt_tot (hp : tourP n xs) {a b : Nat} (ha : a < n) (hb : b < n) (hab : a ≠ b) : bt xs a b = !bt xs b a := (tour_bits hp).2.2 a b (by rw [tour_len hp]; exact ha) (by rw [tour_len hp]; exact hb) hab
/-- there is one order without reversals at most -/
theorem zero_one (hp : tourP n xs) {l k : List Nat} (hl : l ∈ ordL n) (hk : k ∈ ordL n) (h1 : revN (bt xs) l = 0) (h2 : revN (bt xs) k = 0) : l = k := by
  have e1 := rev_zero.1 h1
  have e2 := rev_zero.1 h2
  obtain ⟨-, hlt, hln⟩ := mem_ordL.1 hl
  refine List.Perm.eq_of_pairwise (le := fun a b => bt xs b a = false) (fun a b ha hb h3 h4 => ?_) e1 e2 ((ord_perm hl).trans (ord_perm hk).symm)
  by_cases hab : a = b
  · exact hab
  · have := bt_tot hp (hlt a ha) ((mem_ordL.1 hk).2.1 b hb) hab
    rw [h4, h3] at this
    cases this
/-- an order without reversals: who stands ahead beats who stands behind -/
theorem zero_beats (hp : tourP n xs) {l : List Nat} (hl : l ∈ ordL n) : revN (bt xs) l = 0 ↔ l.Pairwise fun a b => bt xs a b = true := by
  obtain ⟨-, hlt, hln⟩ := mem_ordL.1 hl
  rw [rev_zero]
  constructor
  · intro h
    refine List.Pairwise.imp_of_mem (fun {a b} ha hb h => ?_) (h.and hln)
    have := bt_tot hp (hlt a ha) (hlt b hb) h.2
    rw [h.1] at this
    exact this
  · intro h
    refine List.Pairwise.imp_of_mem (fun {a b} ha hb h => ?_) h
    exact (bt_asym hp (hlt a ha) (hlt b hb) h).1
theorem zero_trans (hp : tourP n xs) {l : List Nat} (hl : l ∈ ordL n) (h : revN (bt xs) l = 0) : transP xs n := by
  have hpw := (zero_beats hp hl).1 h
  rw [List.pairwise_iff_getElem] at hpw
  have hat : ∀ a, a < n → ∃ (i : Nat) (hi : i < l.length), l[i] = a := fun a ha => List.mem_iff_getElem.1 (ord_all hl ha)
  have key : ∀ i j (hi : i < l.length) (hj : j < l.length), bt xs l[i] l[j] = true → i < j := fun i j hi hj hb => by
    rcases Nat.lt_trichotomy i j with h1 | h1 | h1
    · exact h1
    · subst h1
      rw [bt_irr hp] at hb; cases hb
    · have := hpw j i hj hi h1
      have hlt := (mem_ordL.1 hl).2.1
      rw [(bt_asym hp (hlt _ (List.getElem_mem hi)) (hlt _ (List.getElem_mem hj)) hb).1] at this
      cases this
  intro a b c ha hb hc h1 h2
  obtain ⟨i, hi, rfl⟩ := hat a ha
  obtain ⟨j, hj, rfl⟩ := hat b hb
  obtain ⟨k, hk, rfl⟩ := hat c hc
  have q1 := key i j hi hj h1
  have q2 := key j k hj hk h2
  exact hpw i k hi hk (by omega)
/-- a way through all players of a transitive tour is its order -/
theorem way_zero (hp : tourP n xs) (ht : transP xs n) {l : List Nat} (hl : l ∈ ordL n) (hw : way (bt xs) l = true) : revN (bt xs) l = 0 := by
  obtain ⟨hlen, hlt, -⟩ := mem_ordL.1 hl
  rw [zero_beats hp hl, List.pairwise_iff_getElem]
  rw [way_iff] at hw
  intro i j hi hj hij
  obtain ⟨d, rfl⟩ : ∃ d, j = i + 1 + d := ⟨j - (i + 1), by omega⟩
  induction d with
  | zero =>
    have := hw i (by omega)
    rwa [getD_nat hi, getD_nat (by omega)] at this
  | succ d ih =>
    have h1 := ih (by omega) (by omega)
    have h2 := hw (i + 1 + d) (by omega)
    rw [getD_nat (by omega), getD_nat (by omega)] at h2
    exact ht _ _ _ (hlt _ (List.getElem_mem _)) (hlt _ (List.getElem_mem _)) (hlt _ (List.getElem_mem _)) h1 h2
theorem trans_best (hp : tourP n xs) (ht : transP xs n) : revN (bt xs) (bestO (bt xs) n) = 0 := by
  obtain ⟨h1, h2⟩ := bestO_law (r := bt xs) (n := n) (bt_irr hp)
  exact way_zero hp ht h1 (best_is_way (fun a b ha hb hab => bt_tot hp ha hb hab) h1 fun k hk => by rw [h2]; exact (few_law (bt_irr hp)).2.1 k hk)
/-- the least number of reversals -/
theorem trans_few (hp : tourP n xs) : fewN (bt xs) n = 0 ↔ transP xs n := by
  obtain ⟨h1, h2⟩ := bestO_law (r := bt xs) (n := n) (bt_irr hp)
  constructor
  · intro h; exact zero_trans hp h1 (h2.trans h)
  · intro ht; rw [← h2]; exact trans_best hp ht
theorem count_one {p : List Nat → Bool} {n : Nat} {l : List Nat} (hl : l ∈ ordL n) (h1 : p l = true) (h2 : ∀ k ∈ ordL n, p k = true → k = l) : (ordL n).countP p = 1 := by
  rw [List.countP_eq_length_filter]
  have hn : ((ordL n).filter p).Nodup := List.Pairwise.filter _ (ordL_nodup n)
  have hm : ∀ k ∈ (ordL n).filter p, k = l := fun k hk => h2 k (List.mem_filter.1 hk).1 (List.mem_filter.1 hk).2
  have hin : l ∈ (ordL n).filter p := List.mem_filter.2 ⟨hl, h1⟩
  generalize (ordL n).filter p = M at *
  match M, hn, hm, hin with
  | [a], _, _, _ => rfl
  | a :: b :: M, hn, hm, _ =>
    rw [List.nodup_cons] at hn
    exfalso
    have e1 := hm a (by simp)
    have e2 := hm b (by simp)
    exact hn.1 (by rw [e1, ← e2]; simp)
theorem trans_many (hp : tourP n xs) (ht : transP xs n) : manyN (bt xs) n = 1 := by
  obtain ⟨h1, -⟩ := bestO_law (r := bt xs) (n := n) (bt_irr hp)
  rw [(few_law (bt_irr hp)).2.2.2, (trans_few hp).2 ht]
  exact count_one h1 (by simp [trans_best hp ht]) fun k hk h => zero_one hp hk h1 (by simpa using h) (trans_best hp ht)
theorem trans_ways (hp : tourP n xs) (ht : transP xs n) : wyS xs n n = 1 := by
  have hn1 : 1 ≤ n := by have := hp.1; omega
  obtain ⟨h1, h2⟩ := bestO_law (r := bt xs) (n := n) (bt_irr hp)
  have hb := trans_best hp ht
  rw [wyS_cnt hn1]
  unfold cntQ
  have hw : way (bt xs) (bestO (bt xs) n) = true := best_is_way (fun a b ha hb hab => bt_tot hp ha hb hab) h1 fun k hk => by rw [h2]; exact (few_law (bt_irr hp)).2.1 k hk
  exact count_one h1 (by simp [hw]) fun k hk h => zero_one hp hk h1 (way_zero hp ht hk (by simpa using h)) hb
end Go.Proofs.YtbkiedhaacapbaaGreat

