/- Texts put together: FlipG, FlipT, FlN, StC, OrB, Met, Goals, Cmp, Rec, Pts. -/
import Derived.Test.YtbkiedhaacapbaaGreatMTop15
import Derived.Test.YtbkiedhaacapbaaGreatMTop09
import Derived.Test.YtbkiedhaacapbaaGreatMTop05
import Derived.Test.YtbkiedhaacapbaaGreatMTop14
import Derived.Test.YtbkiedhaacapbaaGreatMTop13
import Derived.Test.YtbkiedhaacapbaaGreatMTop11
import Derived.Test.YtbkiedhaacapbaaGreatMTop01
import Derived.OwnWalk
import Derived.Test.YtbkiedhaacapbaaGreatMTop02
namespace Go.Proofs.YtbkiedhaacapbaaGreat
open Go.RowKit Go.Sort
set_option maxRecDepth 100000

noncomputable def flOk (s : Int) (xs : List Int) (a b : Int) : Bool := tourB s xs && (inB a 0 (s - 1) && (inB b 0 (s - 1) && !(a == b)))
noncomputable def flS (s : Int) (xs : List Int) (a b : Int) : Int := if flOk s xs a b = true then s else 0
noncomputable def flL (s : Int) (xs : List Int) (a b : Int) : List Int := if flOk s xs a b = true then flipL xs a.toNat b.toNat else []
theorem fl_no {s : Int} {xs : List Int} {a b : Int} (h : flOk s xs a b = false) : flS s xs a b = 0 ∧ flL s xs a b = [] := by simp [flS, flL, h]
theorem fl_yes {s : Int} {xs : List Int} {a b : Int} (h : flOk s xs a b = true) : flS s xs a b = s ∧ flL s xs a b = flipL xs a.toNat b.toNat := by simp [flS, flL, h]
theorem flL_len (s : Int) (xs : List Int) (a b : Int) : (flL s xs a b).length ≤ 8 := by
  unfold flL
  split
  · rename_i h
    unfold flOk at h
    rw [Bool.and_eq_true] at h
    have := (tourB_true.1 h.1).1
    have := (tourB_true.1 h.1).2.1
    rw [flipL_len]; omega
  · simp
end Go.Proofs.YtbkiedhaacapbaaGreat

namespace Go.Proofs.YtbkiedhaacapbaaGreat
open Go.RowKit Go.Sort
set_option maxRecDepth 100000
theorem xor_nat {S b : Nat} (hS : S < 256) (hb : b < 8) : xorI (S : Int) b = ((S ^^^ 2 ^ b : Nat) : Int) := by
  unfold xorI
  rw [shl_nat b (by omega)]
  have : 2 ^ b < 256 := pow_lt8 hb
  exact i64_xor_nat S (2 ^ b) (by omega) (by omega)
theorem flip_at {s : Int} {xs : List Int} (hp : tourP s xs) {a b : Nat} (ha : a < xs.length) (hb : b < xs.length) (hab : a ≠ b) (x : Nat) (hx : x < xs.length) :
    ∃ S : Nat, (flipL xs a b).getD x 0 = (S : Int) ∧ S < 2 ^ xs.length ∧ ∀ y, S.testBit y = ((bt xs x y) ^^ ((x == a && y == b) || (x == b && y == a))) := by
  have h8 : xs.length ≤ 8 := by have h1 := hp.1; have h2 := hp.2.1; omega
  have hw := fun z (hz : z < xs.length) => tour_wins hp hz
  have hsn : s.toNat = xs.length := by have := hp.2.1; omega
  have pw : ∀ c, c < xs.length → 2 ^ c < 2 ^ xs.length := fun c hc => Nat.pow_lt_pow_right (by decide) hc
  have e1 : (xs.set a (xorI (xs.getD a 0) b)).getD b 0 = xs.getD b 0 := getD_set_other _ hab
  unfold flipL
  rw [e1]
  have wa := hw a ha
  have wb := hw b hb
  rw [hsn] at wa wb
  by_cases h1 : x = b
  · subst h1
    rw [getD_set_same _ (by simp [hx]), wb.1, xor_nat wb.2.2 (by omega)]
    refine ⟨_, rfl, Nat.xor_lt_two_pow wb.2.1 (pw a ha), fun y => ?_⟩
    rw [Nat.testBit_xor, Nat.testBit_two_pow]
    have q : (x == a) = false := by simp; omega
    by_cases e : a = y
    · subst e; simp [q, bt]
    · have : (y == a) = false := by simp; omega
      simp [q, bt, e, this]
  · rw [getD_set_other _ (Ne.symm h1)]
    by_cases h2 : x = a
    · subst h2
      rw [getD_set_same _ hx, wa.1, xor_nat wa.2.2 (by omega)]
      refine ⟨_, rfl, Nat.xor_lt_two_pow wa.2.1 (pw b hb), fun y => ?_⟩
      rw [Nat.testBit_xor, Nat.testBit_two_pow]
      have q : (x == b) = false := by simp; omega
      by_cases e : b = y
      · subst e; simp [q, bt]
      · have : (y == b) = false := by simp; omega
        simp [q, bt, e, this]
    · rw [getD_set_other _ (Ne.symm h2)]
      have wx := hw x hx
      rw [hsn] at wx
      refine ⟨_, wx.1, wx.2.1, fun y => ?_⟩
      have q1 : (x == a) = false := by simp; omega
      have q2 : (x == b) = false := by simp; omega
      simp [q1, q2, bt]
theorem flip_tour {s : Int} {xs : List Int} (hp : tourP s xs) {a b : Nat} (ha : a < xs.length) (hb : b < xs.length) (hab : a ≠ b) : tourP s (flipL xs a b) := by
  have hl := flipL_len xs a b
  have ht := tour_bits hp
  have hbt : ∀ x y, x < xs.length → bt (flipL xs a b) x y = ((bt xs x y) ^^ ((x == a && y == b) || (x == b && y == a))) := fun x y hx => by
    obtain ⟨S, e, -, h⟩ := flip_at hp ha hb hab x hx
    show (winsN (flipL xs a b) x).testBit y = _
    unfold winsN
    rw [e, Int.toNat_natCast]
    exact h y
  refine tour_of_bits hp.1 (by rw [hl]; exact hp.2.1) (fun i hi => ?_) (fun x hx => ?_) (fun x y hx hy hxy => ?_)
  · rw [hl] at hi ⊢
    obtain ⟨S, e, h, -⟩ := flip_at hp ha hb hab i hi
    exact ⟨S, e, h⟩
  · rw [hl] at hx
    rw [hbt x x hx, ht.2.1 x hx]
    have q : ((x == a && x == b) || (x == b && x == a)) = false := by
      rcases e : ((x == a && x == b) || (x == b && x == a)) with _ | _
      · rfl
      · simp at e; omega
    rw [q]; rfl
  · rw [hl] at hx hy
    rw [hbt x y hx, hbt y x hy, ht.2.2 x y hx hy hxy]
    have q : ((y == a && x == b) || (y == b && x == a)) = ((x == a && y == b) || (x == b && y == a)) := by
      rw [Bool.or_comm, Bool.and_comm (y == b), Bool.and_comm (y == a)]
    rw [q]
    cases bt xs y x <;> cases ((x == a && y == b) || (x == b && y == a)) <;> rfl
end Go.Proofs.YtbkiedhaacapbaaGreat

namespace Go.Proofs.YtbkiedhaacapbaaGreat
open Go.RowKit Go.Sort
set_option maxRecDepth 100000
variable {n : Nat} {xs : List Int} {sl : Value} {w : World}
/-- a game reversed -/
theorem flip_btN {n : Nat} {xs : List Int} (hp : tourP n xs) {a b : Nat} (ha : a < n) (hb : b < n) (hab : a ≠ b) {x y : Nat} (hx : x < n) : bt (flipL xs a b) x y = (bt xs x y ^^ ((x == a && y == b) || (x == b && y == a))) := by
  have hl := tour_len hp
  obtain ⟨S, e, -, h⟩ := flip_at hp (a := a) (b := b) (by omega) (by omega) hab x (by omega)
  unfold bt winsN
  rw [e]
  exact h y
theorem flip_tourN (hp : tourP n xs) {a b : Nat} (ha : a < n) (hb : b < n) (hab : a ≠ b) : tourP n (flipL xs a b) := flip_tour hp (by rw [tour_len hp]; exact ha) (by rw [tour_len hp]; exact hb) hab
theorem cBeats (hp : tourP n xs) (h : Rd w sl xs) (a b : Nat) (ha : a < n) (hb : b < n) : Calls Tryz.prog 32 #[.agg #[.int .i64 n, sl], .int .i64 a, .int .i64 b] w fun e w' => e = .returned (.bool (bt xs a b)) ∧ Below w.heap.size w w' := by
  have := beats_any n sl xs a b w h (by omega) (by rw [tour_len hp]; omega) (by omega) (by have := hp.1; omega)
  obtain ⟨S, e, -⟩ := (tour_bits hp).1 a (by rw [tour_len hp]; exact ha)
  rwa [Int.toNat_natCast, Int.toNat_natCast, bitI_bt e] at this
end Go.Proofs.YtbkiedhaacapbaaGreat

namespace Go.Proofs.YtbkiedhaacapbaaGreat
open Go.RowKit Go.Sort
set_option maxRecDepth 100000
noncomputable def strB (xs : List Int) (n : Nat) : Bool := decide ((partsN xs (2 ^ n - 1)).length = 1)
theorem strB_iff {n : Nat} {xs : List Int} (hp : tourP n xs) : strB xs n = true ↔ strP xs n := by
  unfold strB; rw [decide_eq_true_eq, strong_parts hp]
theorem partsF_len (xs : List Int) (n : Nat) : ∀ f S, (partsF xs n f S).length ≤ f := by
  intro f
  induction f with
  | zero => intro S; simp [partsF]
  | succ f ih =>
    intro S
    rw [partsF]
    split
    · simp
    · have := ih (less S (topF xs n S)); simp; omega
theorem partsN_len {n : Nat} {xs : List Int} (hp : tourP n xs) : (partsN xs (2 ^ n - 1)).length ≤ 256 := by
  have h := partsF_len xs xs.length (2 ^ n - 1 + 1) (2 ^ n - 1)
  have h2 : 2 ^ n ≤ 256 := pow_le (by have := hp.1; omega)
  have := Nat.one_le_two_pow (n := n)
  unfold partsN
  omega
section
variable {n : Nat} {xs : List Int} {sl : Value} {w : World}
theorem cPartsM (hp : tourP n xs) (h : Rd w sl xs) : Calls Tryz.prog 27 #[.agg #[.int .i64 n, sl]] w fun e w' => ∃ A c, e = .returned (.slice A (partsN xs (2 ^ n - 1)).length c) ∧ c ≤ maxLen ∧ Own w' w.heap.size (.slice A (partsN xs (2 ^ n - 1)).length c) (nI (partsN xs (2 ^ n - 1))) ∧ Below w.heap.size w w' :=
  (parts_any n sl xs hp w h).mono fun e w' ⟨v, h1, h2, h3⟩ => by
    obtain ⟨A, c, rfl, hc, -⟩ := h2.form
    rw [tour_len hp, nI_len] at h1
    rw [tour_len hp, nI_len] at h2
    exact ⟨A, c, h1, hc, h2, h3⟩
set_option maxHeartbeats 1000000 in
theorem isStrong_any (hp : tourP n xs) (h : Rd w sl xs) : Calls Tryz.prog 51 #[.agg #[.int .i64 n, sl]] w fun e w' => e = .returned (.bool (strB xs n)) ∧ Below w.heap.size w w' := by
  have HR := Lib.hid h
  obtain ⟨A, cA, rfl, -, -, -⟩ := h
  rw [tour_len hp] at *
  have HP := Lib.hid hp
  clear hp
  go_enter Tryz.func51, Tryz.ntmps51
  go_wp2_with fail
  have b0 := below_alloc1 w (.cells #[.int .i64 n, .slice A n cA] 25)
  have x0 := TBox.new w n (.slice A n cA) 25
  generalize w.alloc (.cells #[.int .i64 n, .slice A n cA] 25) = w0 at *
  have HX0 := Lib.hid x0
  have HB0 := Lib.hid b0
  clear x0 b0
  have y0_0 := HX0.out.1
  have y1_0 := HX0.out.2
  go_wp2_with fail
  refine (cPartsM HP.out (HR.out.below HB0.out)).mono ?_
  rintro e w1 ⟨B, c, rfl, -, -, hb⟩
  have HB1 := Lib.hid (Below.then HB0.out hb)
  have HE : Hid (strB xs n = decide ((partsN xs (2 ^ n - 1)).length = 1)) := Lib.hid rfl
  generalize (partsN xs (2 ^ n - 1)).length = m at *
  clear hb
  go_wp2
  go_ret
  exact ⟨ret_bool (by rw [HE.out, Bool.eq_iff_iff]; simp; omega), HB1.out⟩
set_option maxHeartbeats 1000000 in
theorem cIsStrong (hp : tourP n xs) (h : Rd w sl xs) : Calls Tryz.prog 24 #[.agg #[.int .i64 n, sl]] w fun e w' => e = .returned (.bool (strB xs n)) ∧ Below w.heap.size w w' := by
  have HR := Lib.hid h
  obtain ⟨A, cA, rfl, -, -, -⟩ := h
  rw [tour_len hp] at *
  have HP := Lib.hid hp
  clear hp
  go_enter Tryz.func24, Tryz.ntmps24
  go_wp2_with fail
  have b0 := below_alloc1 w (.cells #[.int .i64 n, .slice A n cA] 25)
  have x0 := TBox.new w n (.slice A n cA) 25
  generalize w.alloc (.cells #[.int .i64 n, .slice A n cA] 25) = w0 at *
  have HX0 := Lib.hid x0
  have HB0 := Lib.hid b0
  clear x0 b0
  have y0_0 := HX0.out.1
  have y1_0 := HX0.out.2
  go_wp2_with fail
  refine (implTourOk n _ xs _ (HR.out.below HB0.out)).mono ?_
  rintro e w1 ⟨rfl, hb⟩
  rw [tourB_true.2 HP.out]
  have HB1 := Lib.hid (Below.then HB0.out hb)
  have HX1 := Lib.hid (HX0.out.below hb)
  clear hb y0_0 y1_0 HX0 HB0
  have y0_1 := HX1.out.1
  have y1_1 := HX1.out.2
  go_wp2_with fail
  refine (isStrong_any HP.out (HR.out.below HB1.out)).mono ?_
  rintro e w2 ⟨rfl, hb⟩
  have HB2 := Lib.hid (Below.then HB1.out hb)
  clear hb
  go_wp2
  go_ret
  exact ⟨rfl, HB2.out⟩
set_option maxHeartbeats 1000000 in
theorem cParts (hp : tourP n xs) (h : Rd w sl xs) : Calls Tryz.prog 10 #[.agg #[.int .i64 n, sl]] w fun e w' => ∃ A c, e = .returned (.slice A (partsN xs (2 ^ n - 1)).length c) ∧ c ≤ maxLen ∧ Own w' w.heap.size (.slice A (partsN xs (2 ^ n - 1)).length c) (nI (partsN xs (2 ^ n - 1))) ∧ Below w.heap.size w w' := by
  have HR := Lib.hid h
  obtain ⟨A, cA, rfl, -, -, -⟩ := h
  rw [tour_len hp] at *
  have HP := Lib.hid hp
  clear hp
  go_enter Tryz.func10, Tryz.ntmps10
  go_wp2_with fail
  have b0 := below_alloc1 w (.cells #[.int .i64 n, .slice A n cA] 25)
  have x0 := TBox.new w n (.slice A n cA) 25
  generalize w.alloc (.cells #[.int .i64 n, .slice A n cA] 25) = w0 at *
  have HX0 := Lib.hid x0
  have HB0 := Lib.hid b0
  clear x0 b0
  have y0_0 := HX0.out.1
  have y1_0 := HX0.out.2
  go_wp2_with fail
  refine (implTourOk n _ xs _ (HR.out.below HB0.out)).mono ?_
  rintro e w1 ⟨rfl, hb⟩
  rw [tourB_true.2 HP.out]
  have HB1 := Lib.hid (Below.then HB0.out hb)
  have HX1 := Lib.hid (HX0.out.below hb)
  clear hb y0_0 y1_0 HX0 HB0
  have y0_1 := HX1.out.1
  have y1_1 := HX1.out.2
  go_wp2_with fail
  refine (cPartsM HP.out (HR.out.below HB1.out)).mono ?_
  rintro e w2 ⟨B, c, rfl, hc, ho, hb⟩
  have HB2 := Lib.hid (Below.then HB1.out hb)
  have HO2 := Lib.hid (ho.mono HB1.out.size)
  have HC := Lib.hid hc
  clear hb ho hc
  go_wp2
  go_ret
  exact ⟨B, c, rfl, HC.out, HO2.out, HB2.out⟩
/-- the games whose reversal makes the tour weak -/
def wkP (n : Nat) (xs : List Int) (r : List Int) : Prop := ∃ a b : Nat, r = [(a : Int), (b : Int)] ∧ a < n ∧ b < n ∧ bt xs a b = true ∧ strB (flipL xs a b) n = false
end
end Go.Proofs.YtbkiedhaacapbaaGreat

namespace Go.Proofs.YtbkiedhaacapbaaGreat
open Go.RowKit Go.Sort
set_option maxRecDepth 100000
/-- a beats b and stands behind -/
def bgP (r : Nat → Nat → Bool) (l : List Nat) (a b : Nat) : Bool := r a b && decide (l.idxOf b < l.idxOf a)
def bgIn (r : Nat → Nat → Bool) (l : List Nat) (a m : Nat) : List (List Int) := ((List.range m).filter fun b => bgP r l a b).map fun (b : Nat) => [(a : Int), (b : Int)]
def bgTo (r : Nat → Nat → Bool) (n : Nat) (l : List Nat) (k : Nat) : List (List Int) := (List.range k).flatMap fun a => bgIn r l a n
def bgN (r : Nat → Nat → Bool) (n : Nat) (l : List Nat) : List (List Int) := bgTo r n l n
theorem bgIn_succ (r : Nat → Nat → Bool) (l : List Nat) (a m : Nat) : bgIn r l a (m + 1) = bgIn r l a m ++ if bgP r l a m then [[(a : Int), (m : Int)]] else [] := by
  unfold bgIn
  rw [List.range_succ, List.filter_append, List.map_append]
  congr 1
  rcases h : bgP r l a m with _ | _ <;> simp [h]
theorem bgTo_succ (r : Nat → Nat → Bool) (n : Nat) (l : List Nat) (k : Nat) : bgTo r n l (k + 1) = bgTo r n l k ++ bgIn r l k n := by
  unfold bgTo
  rw [List.range_succ, List.flatMap_append]
  simp
theorem bgIn_len (r : Nat → Nat → Bool) (l : List Nat) (a m : Nat) : (bgIn r l a m).length ≤ m := by
  unfold bgIn
  rw [List.length_map]
  exact Nat.le_trans (List.length_filter_le ..) (by rw [List.length_range]; exact Nat.le_refl _)
theorem bgTo_len (r : Nat → Nat → Bool) (n : Nat) (l : List Nat) (k : Nat) : (bgTo r n l k).length ≤ n * k := by
  induction k with
  | zero => simp [bgTo]
  | succ k ih =>
    rw [bgTo_succ, List.length_append]
    have := bgIn_len r l k n
    rw [Nat.mul_succ]
    omega
theorem nI_mem {l : List Nat} {a : Nat} : (a : Int) ∈ nI l ↔ a ∈ l := by
  simp only [nI, List.mem_map]
  constructor
  · rintro ⟨b, hb, e⟩
    have : b = a := by omega
    subst this; exact hb
  · intro h; exact ⟨a, h, rfl⟩
theorem idx_ne {α : Type} [DecidableEq α] {b a : α} {l : List α} (h : ¬ b = a) : (b :: l).idxOf a = l.idxOf a + 1 := by
  rw [List.idxOf_cons, (beq_eq_false_iff_ne).2 h]
  rfl
theorem idx_nI {l : List Nat} {a : Nat} : (nI l).idxOf (a : Int) = l.idxOf a := by
  induction l with
  | nil => rfl
  | cons b l ih =>
    simp only [nI, List.map_cons] at ih ⊢
    by_cases e : b = a
    · subst e; rw [List.idxOf_cons_self, List.idxOf_cons_self]
    · have : ¬ ((b : Int) = (a : Int)) := by omega
      rw [idx_ne this, idx_ne e, ih]
theorem indexI_nI {l : List Nat} {a : Nat} (h : a ∈ l) : indexI (nI l) a = (l.idxOf a : Nat) := by
  unfold indexI
  rw [if_pos (nI_mem.2 h), idx_nI]
theorem ord_all {n : Nat} {l : List Nat} (hl : l ∈ ordL n) {a : Nat} (ha : a < n) : a ∈ l := (ord_perm hl).mem_iff.2 (List.mem_range.2 ha)
/-- their number -/
theorem countP_two {l : List Nat} (p : Nat → Nat → Bool) : (l.flatMap fun a => (l.filter fun b => p a b).map fun (b : Nat) => [(a : Int), (b : Int)]).length = (l.map fun a => l.countP fun b => p a b).sum := by
  rw [List.length_flatMap]
  congr 1
  refine List.map_congr_left fun a _ => ?_
  rw [List.length_map, List.countP_eq_length_filter]
theorem sum_split (p q : Nat → Nat) : ∀ l : List Nat, (l.map fun a => p a + q a).sum = (l.map p).sum + (l.map q).sum := by
  intro l
  induction l with
  | nil => rfl
  | cons a l ih => simp only [List.map_cons, List.sum_cons, ih]; omega
theorem sum_bool (p : Nat → Bool) : ∀ l : List Nat, (l.map fun a => if p a = true then 1 else 0).sum = l.countP p := by
  intro l
  induction l with
  | nil => rfl
  | cons a l ih =>
    rw [List.map_cons, List.sum_cons, ih, List.countP_cons]
    omega
theorem rev_pairs (r : Nat → Nat → Bool) : ∀ {l : List Nat}, l.Nodup → (l.map fun a => l.countP fun b => r a b && decide (l.idxOf b < l.idxOf a)).sum = revN r l := by
  intro l
  induction l with
  | nil => intro _; rfl
  | cons x l ih =>
    intro hn
    rw [List.nodup_cons] at hn
    rw [List.map_cons, List.sum_cons, revN, ← ih hn.2]
    have h0 : ((x :: l).countP fun b => r x b && decide ((x :: l).idxOf b < (x :: l).idxOf x)) = 0 := by
      rw [List.countP_eq_zero]
      intro b _
      rw [List.idxOf_cons_self]; simp
    rw [h0, Nat.zero_add, ← sum_bool, ← sum_split]
    congr 1
    refine List.map_congr_left fun a ha => ?_
    have hax : ¬ x = a := fun e => by subst e; exact hn.1 ha
    rw [List.countP_cons]
    have e1 : (x :: l).idxOf a = l.idxOf a + 1 := idx_ne hax
    have e2 : (r a x && decide ((x :: l).idxOf x < (x :: l).idxOf a)) = r a x := by
      rw [List.idxOf_cons_self, e1]; simp
    have e3 : (l.countP fun b => r a b && decide ((x :: l).idxOf b < (x :: l).idxOf a)) = l.countP fun b => r a b && decide (l.idxOf b < l.idxOf a) := by
      refine List.countP_congr fun b hb => ?_
      have hbx : ¬ x = b := fun e => by subst e; exact hn.1 hb
      have e4 : (x :: l).idxOf b = l.idxOf b + 1 := idx_ne hbx
      rw [e1, e4]
      simp
    rw [e2, e3]
    omega
theorem bgN_len {r : Nat → Nat → Bool} {n : Nat} {l : List Nat} (hl : l ∈ ordL n) : (bgN r n l).length = revN r l := by
  have hp := ord_perm hl
  unfold bgN bgTo bgIn
  rw [countP_two (fun a b => bgP r l a b), ← rev_pairs r (mem_ordL.1 hl).2.2]
  have e : (fun a => (List.range n).countP fun b => bgP r l a b) = fun a => l.countP fun b => r a b && decide (l.idxOf b < l.idxOf a) := by
    funext a
    exact (hp.countP_eq _).symm
  rw [e]
  exact ((hp.map _).sum_nat).symm
theorem bgN_mem {r : Nat → Nat → Bool} {n : Nat} {l : List Nat} {x : List Int} : x ∈ bgN r n l ↔ ∃ a b : Nat, a < n ∧ b < n ∧ bgP r l a b = true ∧ x = [(a : Int), (b : Int)] := by
  unfold bgN bgTo bgIn
  simp only [List.mem_flatMap, List.mem_range, List.mem_map, List.mem_filter]
  constructor
  · rintro ⟨a, ha, b, ⟨hb, hp⟩, rfl⟩; exact ⟨a, b, ha, hb, hp, rfl⟩
  · rintro ⟨a, b, ha, hb, hp, rfl⟩; exact ⟨a, ha, b, ⟨hb, hp⟩, rfl⟩
variable {n : Nat} {sl ov : Value} {xs : List Int} {w : World} {l : List Nat}
end Go.Proofs.YtbkiedhaacapbaaGreat

namespace Go.Proofs.YtbkiedhaacapbaaGreat
open Go.RowKit Go.Sort

def metR (a b : Int) (r : R4) : Bool := (r.1 == a && r.2.1 == b) || (r.1 == b && r.2.1 == a)
def metN (rs : List R4) (a b : Int) : Nat := (rs.filter (metR a b)).length
theorem metN_le (rs : List R4) (a b : Int) (k : Nat) : metN (rs.take k) a b ≤ k := by
  unfold metN
  refine Nat.le_trans (List.length_filter_le _ _) ?_
  rw [List.length_take]; omega
theorem take_snocR {rs : List R4} {k : Nat} (hk : k < rs.length) : rs.take (k + 1) = rs.take k ++ [r4At rs k] := by
  rw [List.take_succ_eq_append_getElem hk]
  simp [r4At, hk]
theorem metN_yes {rs : List R4} {k : Nat} {a b : Int} (hk : k < rs.length) (h : metR a b (r4At rs k) = true) : metN (rs.take (k + 1)) a b = metN (rs.take k) a b + 1 := by
  rw [take_snocR hk]; simp [metN, List.filter_append, h]
theorem metN_no {rs : List R4} {k : Nat} {a b : Int} (hk : k < rs.length) (h : metR a b (r4At rs k) = false) : metN (rs.take (k + 1)) a b = metN (rs.take k) a b := by
  rw [take_snocR hk]; simp [metN, List.filter_append, h]

def metI (s : Int) (rs : List R4) (a b : Int) : Int := if leagueB s rs = true ∧ inB a 0 (s - 1) = true ∧ inB b 0 (s - 1) = true ∧ ¬ a = b then metN rs a b else -1
theorem metI_no {s : Int} {rs : List R4} {a b : Int} (h : ¬ (leagueB s rs = true ∧ inB a 0 (s - 1) = true ∧ inB b 0 (s - 1) = true ∧ ¬ a = b)) : metI s rs a b = -1 := by unfold metI; rw [if_neg h]
theorem metI_yes {s : Int} {rs : List R4} {a b : Int} (h : leagueB s rs = true ∧ inB a 0 (s - 1) = true ∧ inB b 0 (s - 1) = true ∧ ¬ a = b) : metI s rs a b = metN rs a b := by unfold metI; rw [if_pos h]
end Go.Proofs.YtbkiedhaacapbaaGreat

namespace Go.Proofs.YtbkiedhaacapbaaGreat
open Go.RowKit Go.Sort

/-- the goals of a club that plays in a result, and those of the other one -/
def gf1 (c : Int) (r : R4) : Int := if r.1 = c then r.2.2.1 else r.2.2.2
def gf2 (c : Int) (r : R4) : Int := if r.1 = c then r.2.2.2 else r.2.2.1
def plays (c : Int) (r : R4) : Bool := r.1 == c || r.2.1 == c
def madeN (rs : List R4) (c : Int) : Int := ((rs.filter (plays c)).map (gf1 c)).sum
def agN (rs : List R4) (c : Int) : Int := ((rs.filter (plays c)).map (gf2 c)).sum
theorem goals_yes {rs : List R4} {k : Nat} {c : Int} (hk : k < rs.length) (h : plays c (r4At rs k) = true) : madeN (rs.take (k + 1)) c = madeN (rs.take k) c + gf1 c (r4At rs k) ∧ agN (rs.take (k + 1)) c = agN (rs.take k) c + gf2 c (r4At rs k) := by
  rw [take_snocR hk]; simp [madeN, agN, List.filter_append, h]
theorem goals_no {rs : List R4} {k : Nat} {c : Int} (hk : k < rs.length) (h : plays c (r4At rs k) = false) : madeN (rs.take (k + 1)) c = madeN (rs.take k) c ∧ agN (rs.take (k + 1)) c = agN (rs.take k) c := by
  rw [take_snocR hk]; simp [madeN, agN, List.filter_append, h]
theorem r4_mem {rs : List R4} {k : Nat} (hk : k < rs.length) : r4At rs k ∈ rs := by
  rw [show r4At rs k = rs[k] by simp [r4At, hk]]; exact List.getElem_mem hk
theorem goals_bd {rs : List R4} {c : Int} (hv : ∀ r ∈ rs, (0 ≤ r.2.2.1 ∧ r.2.2.1 ≤ 99) ∧ (0 ≤ r.2.2.2 ∧ r.2.2.2 ≤ 99)) (k : Nat) (hk : k ≤ rs.length) :
    (0 ≤ madeN (rs.take k) c ∧ madeN (rs.take k) c ≤ 99 * k) ∧ (0 ≤ agN (rs.take k) c ∧ agN (rs.take k) c ≤ 99 * k) := by
  induction k with
  | zero => simp [madeN, agN]
  | succ k ih =>
    have ih := ih (by omega)
    have hr := hv _ (r4_mem (by omega : k < rs.length))
    rcases h : plays c (r4At rs k) with _ | _
    · rw [(goals_no (by omega) h).1, (goals_no (by omega) h).2]; omega
    · rw [(goals_yes (by omega) h).1, (goals_yes (by omega) h).2]
      unfold gf1 gf2
      split <;> omega
theorem league_goals {s : Int} {rs : List R4} (h : leagueB s rs = true) : ∀ r ∈ rs, (0 ≤ r.2.2.1 ∧ r.2.2.1 ≤ 99) ∧ (0 ≤ r.2.2.2 ∧ r.2.2.2 ≤ 99) := fun r hr => by
  have := resB_true.1 ((leagueB_true.1 h).2.2 r hr)
  exact ⟨this.2.2.2.1, this.2.2.2.2⟩

noncomputable def goals1 (s : Int) (rs : List R4) (club : Int) : Int := if leagueB s rs = true ∧ inB club 0 (s - 1) = true then madeN rs club else -1
noncomputable def goals2 (s : Int) (rs : List R4) (club : Int) : Int := if leagueB s rs = true ∧ inB club 0 (s - 1) = true then agN rs club else -1
theorem goals12_no {s : Int} {rs : List R4} {club : Int} (h : ¬ (leagueB s rs = true ∧ inB club 0 (s - 1) = true)) : goals1 s rs club = -1 ∧ goals2 s rs club = -1 := by unfold goals1 goals2; rw [if_neg h, if_neg h]; exact ⟨rfl, rfl⟩
theorem goals12_yes {s : Int} {rs : List R4} {club : Int} (h : leagueB s rs = true ∧ inB club 0 (s - 1) = true) : goals1 s rs club = madeN rs club ∧ goals2 s rs club = agN rs club := by unfold goals1 goals2; rw [if_pos h, if_pos h]; exact ⟨rfl, rfl⟩
theorem ret_two {a b c d : Int} (h : a = c ∧ b = d) : Ending.returned (.tuple #[.int .i64 a, .int .i64 b]) = .returned (.tuple #[.int .i64 c, .int .i64 d]) := by rw [h.1, h.2]
end Go.Proofs.YtbkiedhaacapbaaGreat

namespace Go.Proofs.YtbkiedhaacapbaaGreat
open Go.RowKit

def cmpI (x y : Int) : Int := if x < y then -1 else if y < x then 1 else 0
theorem cmpI_bd (x y : Int) : -1 ≤ cmpI x y ∧ cmpI x y ≤ 1 := by unfold cmpI; repeat' split <;> omega
/-- the first number that is not 0 -/
def orI (xs : List Int) : Int := (xs.find? fun x => !(x == 0)).getD 0
theorem orI_hit {xs : List Int} {k : Nat} (hk : k < xs.length) (hx : (xs[k]?.getD 0 != 0) = true) (h : ∀ x ∈ xs.take k, x = 0) : orI xs = xs[k]?.getD 0 := by
  have e : xs[k]?.getD 0 = xs[k] := by simp [hk]
  rw [e] at hx ⊢
  unfold orI
  have : xs.find? (fun x => !(x == 0)) = some xs[k] := by
    rw [List.find?_eq_some_iff_getElem]
    refine ⟨by simpa using hx, k, hk, rfl, fun j hj => ?_⟩
    have := h xs[j] (by
      rw [List.mem_iff_getElem?]
      exact ⟨j, by rw [List.getElem?_take, if_pos hj, List.getElem?_eq_getElem]⟩)
    simp [this]
  rw [this]; rfl
theorem orI_miss {xs : List Int} (h : ∀ x ∈ xs, x = 0) : orI xs = 0 := by
  unfold orI
  have : xs.find? (fun x => !(x == 0)) = none := by
    rw [List.find?_eq_none]
    intro x hx
    simp [h x hx]
  rw [this]; rfl
theorem zeros_step {xs : List Int} {k : Nat} (hk : k < xs.length) (hx : (xs[k]?.getD 0 != 0) = false) (h : ∀ x ∈ xs.take k, x = 0) : ∀ x ∈ xs.take (k + 1), x = 0 := by
  have e : xs[k]?.getD 0 = xs[k] := by simp [hk]
  rw [e] at hx
  rw [List.take_succ_eq_append_getElem hk]
  intro x hx'
  rw [List.mem_append, List.mem_singleton] at hx'
  rcases hx' with hx' | rfl
  · exact h x hx'
  · simpa using hx
end Go.Proofs.YtbkiedhaacapbaaGreat

namespace Go.Proofs.YtbkiedhaacapbaaGreat
open Go.RowKit Go.Sort

/-- 2 for a win of a club that plays, 1 for a draw, 0 for a defeat -/
def outc (club : Int) (r : R4) : Int := 1 + cmpI (gf1 club r) (gf2 club r)
theorem outc_cases (club : Int) (r : R4) : outc club r = 0 ∨ outc club r = 1 ∨ outc club r = 2 := by
  have := cmpI_bd (gf1 club r) (gf2 club r)
  unfold outc; omega
/-- points by goals -/
def p3 (x y : Int) : Int := if y < x then 3 else if x < y then 0 else 1
def ptsC (n : Int) : Int := if n = 2 then 3 else if n = 1 then 1 else 0
theorem p3_cmp (x y : Int) : p3 x y = ptsC (1 + cmpI x y) := by
  unfold p3 ptsC cmpI
  repeat' split
  all_goals first | omega | rfl
def recN (rs : List R4) (c : Int) (n : Int) : Nat := (rs.filter (fun r => plays c r && (outc c r == n))).length
theorem recN_le (rs : List R4) (c n : Int) (k : Nat) : recN (rs.take k) c n ≤ k := by
  unfold recN
  refine Nat.le_trans (List.length_filter_le _ _) ?_
  rw [List.length_take]; omega
theorem recN_yes {rs : List R4} {k : Nat} {c n : Int} (hk : k < rs.length) (h : plays c (r4At rs k) = true) (h2 : outc c (r4At rs k) = n) (m : Int) : recN (rs.take (k + 1)) c m = recN (rs.take k) c m + if n = m then 1 else 0 := by
  rw [take_snocR hk]
  unfold recN
  rw [List.filter_append, List.length_append]
  congr 1
  rw [List.filter_cons, h, h2]
  by_cases e : n = m
  · simp [e]
  · simp [e]
theorem recN_no {rs : List R4} {k : Nat} {c : Int} (hk : k < rs.length) (h : plays c (r4At rs k) = false) (m : Int) : recN (rs.take (k + 1)) c m = recN (rs.take k) c m := by
  rw [take_snocR hk]; simp [recN, List.filter_append, h]

/-- three counts in a box -/
def C3 (W : World) (g : Nat) (a b c : Int) : Prop := (W.cell? ⟨g, 0, none⟩ = some (.int .i64 a) ∧ W.cell? ⟨g, 1, none⟩ = some (.int .i64 b) ∧ W.cell? ⟨g, 2, none⟩ = some (.int .i64 c)) ∧ ∀ k, W.frozen? ⟨g, k, none⟩ = false
theorem C3.below {W W' : World} {g : Nat} {a b c : Int} (h : C3 W g a b c) (hb : Below W.heap.size W W') : C3 W' g a b c := by
  obtain ⟨⟨h0, h1, h2⟩, h3⟩ := h
  have hg := World.block_lt_of_cell? W _ h0
  obtain ⟨hc, hf⟩ := bcell hb
  exact ⟨⟨(hc _ _ hg).trans h0, (hc _ _ hg).trans h1, (hc _ _ hg).trans h2⟩, fun k => (hf _ _ hg).trans (h3 k)⟩
theorem C3.set {W : World} {g : Nat} {a b c : Int} (h : C3 W g a b c) (x : Int) :
    C3 (W.setCell ⟨g, 0, none⟩ (.int .i64 x)) g x b c ∧ C3 (W.setCell ⟨g, 1, none⟩ (.int .i64 x)) g a x c ∧ C3 (W.setCell ⟨g, 2, none⟩ (.int .i64 x)) g a b x := by
  obtain ⟨⟨h0, h1, h2⟩, h3⟩ := h
  have S : ∀ {p : Addr} {u : Value}, W.cell? p = some u → (W.setCell p (.int .i64 x)).cell? p = some (.int .i64 x) := fun h => World.cell?_setCell_same _ _ _ h
  have O : ∀ {p q : Addr} {u : Value}, p ≠ q → W.cell? q = some u → (W.setCell p (.int .i64 x)).cell? q = some u := fun hn h => (World.cell?_setCell_other _ _ _ _ hn).trans h
  have F : ∀ p k, (W.setCell p (.int .i64 x)).frozen? ⟨g, k, none⟩ = false := fun p k => by have := h3 k; simpa [go_sem] using this
  exact ⟨⟨⟨S h0, O (by simp) h1, O (by simp) h2⟩, F _⟩, ⟨⟨O (by simp) h0, S h1, O (by simp) h2⟩, F _⟩, ⟨⟨O (by simp) h0, O (by simp) h1, S h2⟩, F _⟩⟩
theorem C3.gt {W : World} {g : Nat} {a b c : Int} (h : C3 W g a b c) : g < W.heap.size := World.block_lt_of_cell? W _ h.1.1
noncomputable def recI (s : Int) (rs : List R4) (club : Int) (n : Int) : Int := if leagueB s rs = true ∧ inB club 0 (s - 1) = true then (recN rs club n : Int) else -1
noncomputable def rec1 (s : Int) (rs : List R4) (club : Int) : Int := recI s rs club 2
noncomputable def rec2 (s : Int) (rs : List R4) (club : Int) : Int := recI s rs club 1
noncomputable def rec3 (s : Int) (rs : List R4) (club : Int) : Int := recI s rs club 0
theorem recI_no {s : Int} {rs : List R4} {club n : Int} (h : ¬ (leagueB s rs = true ∧ inB club 0 (s - 1) = true)) : recI s rs club n = -1 := by unfold recI; rw [if_neg h]
theorem recI_yes {s : Int} {rs : List R4} {club n : Int} (h : leagueB s rs = true ∧ inB club 0 (s - 1) = true) : recI s rs club n = recN rs club n := by unfold recI; rw [if_pos h]
theorem ret_rec {s : Int} {rs : List R4} {club : Int} {a b c : Int} (h : ∀ n, recI s rs club n = if n = 2 then a else if n = 1 then b else if n = 0 then c else recI s rs club n) :
    Ending.returned (.tuple #[.int .i64 a, .int .i64 b, .int .i64 c]) = .returned (.tuple #[.int .i64 (rec1 s rs club), .int .i64 (rec2 s rs club), .int .i64 (rec3 s rs club)]) := by
  unfold rec1 rec2 rec3
  rw [h 2, h 1, h 0]; simp
theorem ret_rec_no {s : Int} {rs : List R4} {club : Int} (h : ¬ (leagueB s rs = true ∧ inB club 0 (s - 1) = true)) :
    Ending.returned (.tuple #[.int .i64 (-1), .int .i64 (-1), .int .i64 (-1)]) = .returned (.tuple #[.int .i64 (rec1 s rs club), .int .i64 (rec2 s rs club), .int .i64 (rec3 s rs club)]) := by
  unfold rec1 rec2 rec3
  rw [recI_no h, recI_no h, recI_no h]
theorem ret_rec_yes {s : Int} {rs : List R4} {club : Int} (h : leagueB s rs = true ∧ inB club 0 (s - 1) = true) :
    Ending.returned (.tuple #[.int .i64 (recN rs club 2 : Int), .int .i64 (recN rs club 1 : Int), .int .i64 (recN rs club 0 : Int)]) = .returned (.tuple #[.int .i64 (rec1 s rs club), .int .i64 (rec2 s rs club), .int .i64 (rec3 s rs club)]) := by
  unfold rec1 rec2 rec3
  rw [recI_yes h, recI_yes h, recI_yes h]
end Go.Proofs.YtbkiedhaacapbaaGreat

namespace Go.Proofs.YtbkiedhaacapbaaGreat
open Go.RowKit Go.Sort

theorem Own.at0 {w : World} {base g n c : Nat} {xs : List Int} (h : Own w base (.slice (some ⟨g, 0, none⟩) n c) xs) (hl : xs.length = n) (h0 : 0 < n) :
    (∀ k, k < n → w.cell? ⟨g, k, none⟩ = some (.int .i64 (xs.getD k 0))) ∧ ∀ k, w.frozen? ⟨g, k, none⟩ = false := by
  obtain ⟨g', c', e, -, -, -, hx, hf⟩ := h.at_ hl h0
  injection e with e _ _
  injection e with e
  injection e with e _ _
  subst e
  exact ⟨hx, hf⟩
theorem ints_made (n : Nat) : (madeCells (Value.int IntKind.i64 0).cells (n * 1)).toList = (List.replicate n (0 : Int)).map (Value.int .i64) := by
  have := toList_madeCells_one (.int .i64 0) (n * 1)
  simpa [Value.cells] using this
/-- the points of a club out of a result -/
def ptsR (c : Int) (r : R4) : Int := if plays c r = true then ptsC (outc c r) else 0
def ptsK (rs : List R4) (c : Int) : Int := (rs.map (ptsR c)).sum
def ptsLK (rs : List R4) (n : Nat) : List Int := (List.range n).map fun c => ptsK rs (c : Nat)
noncomputable def ptsL (s : Int) (rs : List R4) : List Int := if leagueB s rs = true then ptsLK rs s.toNat else []
theorem ptsLK_len (rs : List R4) (n : Nat) : (ptsLK rs n).length = n := by simp [ptsLK]
theorem ptsL_len (s : Int) (rs : List R4) : (ptsL s rs).length ≤ 8 := by
  unfold ptsL
  split
  · rename_i h
    have := (leagueB_true.1 h).1
    rw [ptsLK_len]; omega
  · simp
theorem ptsLK_getD (rs : List R4) (n c : Nat) (h : c < n) : (ptsLK rs n).getD c 0 = ptsK rs c := by simp [ptsLK, h]
theorem ptsC_bd (n : Int) : 0 ≤ ptsC n ∧ ptsC n ≤ 3 := by unfold ptsC; repeat' split <;> omega
theorem ptsK_step {rs : List R4} {k : Nat} (hk : k < rs.length) (c : Int) : ptsK (rs.take (k + 1)) c = ptsK (rs.take k) c + ptsR c (r4At rs k) := by
  rw [take_snocR hk]; simp [ptsK]
theorem ptsR_bd (c : Int) (r : R4) : 0 ≤ ptsR c r ∧ ptsR c r ≤ 3 := by
  have := ptsC_bd (outc c r)
  unfold ptsR; split <;> omega
theorem ptsK_bd (rs : List R4) (c : Int) (k : Nat) (hk : k ≤ rs.length) : 0 ≤ ptsK (rs.take k) c ∧ ptsK (rs.take k) c ≤ 3 * k := by
  induction k with
  | zero => simp [ptsK]
  | succ k ih =>
    have ih := ih (by omega)
    have := ptsR_bd c (r4At rs k)
    rw [ptsK_step (by omega)]; omega
theorem getD_set_ne' {xs : List Int} {a b : Nat} (v : Int) (h : a ≠ b) : (xs.set a v).getD b 0 = xs.getD b 0 := by
  simp [List.getD_eq_getElem?_getD, List.getElem?_set, h]
theorem getD_set_eq' {xs : List Int} {a : Nat} (v : Int) (h : a < xs.length) : (xs.set a v).getD a 0 = v := by
  simp [List.getD_eq_getElem?_getD, h]
/-- both clubs of a result get their points -/
theorem ptsLK_step {rs : List R4} {k n a b : Nat} (hk : k < rs.length) (ha : (r4At rs k).1 = a) (hb : (r4At rs k).2.1 = b) (hab : a ≠ b) (han : a < n) (hbn : b < n) :
    ((ptsLK (rs.take k) n).set a (ptsK (rs.take k) a + ptsC (outc a (r4At rs k)))).set b (ptsK (rs.take k) b + ptsC (outc b (r4At rs k))) = ptsLK (rs.take (k + 1)) n := by
  have hl := ptsLK_len (rs.take k) n
  refine List.ext_getElem (by simp [ptsLK_len]) fun j h1 h2 => ?_
  have hj : j < n := by simpa [ptsLK_len] using h2
  have e2 : (ptsLK (rs.take (k + 1)) n)[j] = ptsK (rs.take (k + 1)) (j : Nat) := by simp [ptsLK]
  have e0 : (ptsLK (rs.take k) n)[j]'(by omega) = ptsK (rs.take k) (j : Nat) := by simp [ptsLK]
  rw [e2, ptsK_step hk, List.getElem_set, List.getElem_set, e0]
  have hpl : plays (j : Int) (r4At rs k) = (decide (a = j) || decide (b = j)) := by
    unfold plays; rw [ha, hb, Bool.eq_iff_iff]; simp; omega
  by_cases e : b = j
  · subst e
    rw [if_pos rfl, ptsR, if_pos (by rw [hpl]; simp)]
  · rw [if_neg e]
    by_cases e' : a = j
    · subst e'
      rw [if_pos rfl, ptsR, if_pos (by rw [hpl]; simp)]
    · rw [if_neg e', ptsR, if_neg (by rw [hpl]; simp [e, e']), Int.add_zero]
theorem ptsLK_zero (n : Nat) : ptsLK [] n = List.replicate n 0 := by
  rw [List.eq_replicate_iff]
  exact ⟨ptsLK_len _ _, fun x hx => by
    unfold ptsLK at hx
    rw [List.mem_map] at hx
    obtain ⟨c, -, rfl⟩ := hx
    rfl⟩
end Go.Proofs.YtbkiedhaacapbaaGreat

