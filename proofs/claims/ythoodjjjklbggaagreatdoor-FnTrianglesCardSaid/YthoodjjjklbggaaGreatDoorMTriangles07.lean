/- Texts put together: Cover, FlipG, FlipT, FlN, TOf, FmP, Dif, TgP, FmV, TgB, Dfs, TgQ. -/
import Derived.Test.YthoodjjjklbggaaGreatDoorMTriangles02
import Derived.Test.YthoodjjjklbggaaGreatDoorMTriangles06
import Derived.Test.YthoodjjjklbggaaGreatDoorMTriangles04
import Derived.Test.YthoodjjjklbggaaGreatDoorMTriangles05
import Derived.Test.YthoodjjjklbggaaGreatDoorMTriangles01
import Derived.Test.YthoodjjjklbggaaGreatDoorMTriangles03
import Derived.Maps.AppendAt
import Derived.Deep.RegionHeld3
import Derived.Deep.AppendSrc
namespace Go.Proofs.YthoodjjjklbggaaGreatDoor
open Go.RowKit Go.Sort

noncomputable def coverB (s : Int) (xs : List Int) (a b : Int) : Bool := beatB s xs a b && (bits BinOp.andNot IntKind.i64 (xs.getD b.toNat 0) (xs.getD a.toNat 0) == 0)

end Go.Proofs.YthoodjjjklbggaaGreatDoor

namespace Go.Proofs.YthoodjjjklbggaaGreatDoor
open Go.RowKit Go.Sort
set_option maxRecDepth 100000

noncomputable def flOk (s : Int) (xs : List Int) (a b : Int) : Bool := tourB s xs && (inB a 0 (s - 1) && (inB b 0 (s - 1) && !(a == b)))
noncomputable def flS (s : Int) (xs : List Int) (a b : Int) : Int := if flOk s xs a b = true then s else 0
noncomputable def flL (s : Int) (xs : List Int) (a b : Int) : List Int := if flOk s xs a b = true then flipL xs a.toNat b.toNat else []
theorem fl_no {s : Int} {xs : List Int} {a b : Int} (h : flOk s xs a b = false) : flS s xs a b = 0 ∧ flL s xs a b = [] := by simp [flS, flL, h]
theorem fl_yes {s : Int} {xs : List Int} {a b : Int} (h : flOk s xs a b = true) : flS s xs a b = s ∧ flL s xs a b = flipL xs a.toNat b.toNat := by simp [flS, flL, h]
theorem flL_len (s : Int) (xs : List Int) (a b : Int) : (flL s xs a b).length ≤ 8 := by
  unfold flL
  split
  · rename_i h
    unfold flOk at h
    rw [Bool.and_eq_true] at h
    have := (tourB_true.1 h.1).1
    have := (tourB_true.1 h.1).2.1
    rw [flipL_len]; omega
  · simp
end Go.Proofs.YthoodjjjklbggaaGreatDoor

namespace Go.Proofs.YthoodjjjklbggaaGreatDoor
open Go.RowKit Go.Sort
set_option maxRecDepth 100000
theorem xor_nat {S b : Nat} (hS : S < 256) (hb : b < 8) : xorI (S : Int) b = ((S ^^^ 2 ^ b : Nat) : Int) := by
  unfold xorI
  rw [shl_nat b (by omega)]
  have : 2 ^ b < 256 := pow_lt8 hb
  exact i64_xor_nat S (2 ^ b) (by omega) (by omega)
theorem flip_at {s : Int} {xs : List Int} (hp : tourP s xs) {a b : Nat} (ha : a < xs.length) (hb : b < xs.length) (hab : a ≠ b) (x : Nat) (hx : x < xs.length) :
    ∃ S : Nat, (flipL xs a b).getD x 0 = (S : Int) ∧ S < 2 ^ xs.length ∧ ∀ y, S.testBit y = ((bt xs x y) ^^ ((x == a && y == b) || (x == b && y == a))) := by
  have h8 : xs.length ≤ 8 := by have h1 := hp.1; have h2 := hp.2.1; omega
  have hw := fun z (hz : z < xs.length) => tour_wins hp hz
  have hsn : s.toNat = xs.length := by have := hp.2.1; omega
  have pw : ∀ c, c < xs.length → 2 ^ c < 2 ^ xs.length := fun c hc => Nat.pow_lt_pow_right (by decide) hc
  have e1 : (xs.set a (xorI (xs.getD a 0) b)).getD b 0 = xs.getD b 0 := getD_set_other _ hab
  unfold flipL
  rw [e1]
  have wa := hw a ha
  have wb := hw b hb
  rw [hsn] at wa wb
  by_cases h1 : x = b
  · subst h1
    rw [getD_set_same _ (by simp [hx]), wb.1, xor_nat wb.2.2 (by omega)]
    refine ⟨_, rfl, Nat.xor_lt_two_pow wb.2.1 (pw a ha), fun y => ?_⟩
    rw [Nat.testBit_xor, Nat.testBit_two_pow]
    have q : (x == a) = false := by simp; omega
    by_cases e : a = y
    · subst e; simp [q, bt]
    · have : (y == a) = false := by simp; omega
      simp [q, bt, e, this]
  · rw [getD_set_other _ (Ne.symm h1)]
    by_cases h2 : x = a
    · subst h2
      rw [getD_set_same _ hx, wa.1, xor_nat wa.2.2 (by omega)]
      refine ⟨_, rfl, Nat.xor_lt_two_pow wa.2.1 (pw b hb), fun y => ?_⟩
      rw [Nat.testBit_xor, Nat.testBit_two_pow]
      have q : (x == b) = false := by simp; omega
      by_cases e : b = y
      · subst e; simp [q, bt]
      · have : (y == b) = false := by simp; omega
        simp [q, bt, e, this]
    · rw [getD_set_other _ (Ne.symm h2)]
      have wx := hw x hx
      rw [hsn] at wx
      refine ⟨_, wx.1, wx.2.1, fun y => ?_⟩
      have q1 : (x == a) = false := by simp; omega
      have q2 : (x == b) = false := by simp; omega
      simp [q1, q2, bt]
theorem flip_tour {s : Int} {xs : List Int} (hp : tourP s xs) {a b : Nat} (ha : a < xs.length) (hb : b < xs.length) (hab : a ≠ b) : tourP s (flipL xs a b) := by
  have hl := flipL_len xs a b
  have ht := tour_bits hp
  have hbt : ∀ x y, x < xs.length → bt (flipL xs a b) x y = ((bt xs x y) ^^ ((x == a && y == b) || (x == b && y == a))) := fun x y hx => by
    obtain ⟨S, e, -, h⟩ := flip_at hp ha hb hab x hx
    show (winsN (flipL xs a b) x).testBit y = _
    unfold winsN
    rw [e, Int.toNat_natCast]
    exact h y
  refine tour_of_bits hp.1 (by rw [hl]; exact hp.2.1) (fun i hi => ?_) (fun x hx => ?_) (fun x y hx hy hxy => ?_)
  · rw [hl] at hi ⊢
    obtain ⟨S, e, h, -⟩ := flip_at hp ha hb hab i hi
    exact ⟨S, e, h⟩
  · rw [hl] at hx
    rw [hbt x x hx, ht.2.1 x hx]
    have q : ((x == a && x == b) || (x == b && x == a)) = false := by
      rcases e : ((x == a && x == b) || (x == b && x == a)) with _ | _
      · rfl
      · simp at e; omega
    rw [q]; rfl
  · rw [hl] at hx hy
    rw [hbt x y hx, hbt y x hy, ht.2.2 x y hx hy hxy]
    have q : ((y == a && x == b) || (y == b && x == a)) = ((x == a && y == b) || (x == b && y == a)) := by
      rw [Bool.or_comm, Bool.and_comm (y == b), Bool.and_comm (y == a)]
    rw [q]
    cases bt xs y x <;> cases ((x == a && y == b) || (x == b && y == a)) <;> rfl
end Go.Proofs.YthoodjjjklbggaaGreatDoor

namespace Go.Proofs.YthoodjjjklbggaaGreatDoor
open Go.RowKit Go.Sort
set_option maxRecDepth 100000
variable {n : Nat} {xs : List Int} {sl : Value} {w : World}
/-- a game reversed -/
theorem flip_btN {n : Nat} {xs : List Int} (hp : tourP n xs) {a b : Nat} (ha : a < n) (hb : b < n) (hab : a ≠ b) {x y : Nat} (hx : x < n) : bt (flipL xs a b) x y = (bt xs x y ^^ ((x == a && y == b) || (x == b && y == a))) := by
  have hl := tour_len hp
  obtain ⟨S, e, -, h⟩ := flip_at hp (a := a) (b := b) (by omega) (by omega) hab x (by omega)
  unfold bt winsN
  rw [e]
  exact h y
theorem cFlipped (hp : tourP n xs) (h : Rd w sl xs) (a b : Nat) (ha : a < n) (hb : b < n) : Calls Tryz.prog 62 #[.agg #[.int .i64 n, sl], .int .i64 a, .int .i64 b] w fun e w' => ∃ A c, e = .returned (.agg #[.int .i64 n, .slice A n c]) ∧ Own w' w.heap.size (.slice A n c) (flipL xs a b) ∧ Below w.heap.size w w' :=
  (flipped_any n sl xs a b w h (by rw [tour_len hp]; have := hp.1; omega) (by rw [tour_len hp]; exact ha) (by rw [tour_len hp]; exact hb)).mono fun e w' ⟨v, h1, h2, h3⟩ => by
    obtain ⟨A, c, rfl, -⟩ := h2.form
    rw [flipL_len, tour_len hp] at h1 h2
    exact ⟨A, c, h1, h2, h3⟩
theorem flip_tourN (hp : tourP n xs) {a b : Nat} (ha : a < n) (hb : b < n) (hab : a ≠ b) : tourP n (flipL xs a b) := flip_tour hp (by rw [tour_len hp]; exact ha) (by rw [tour_len hp]; exact hb) hab
theorem cBeats (hp : tourP n xs) (h : Rd w sl xs) (a b : Nat) (ha : a < n) (hb : b < n) : Calls Tryz.prog 60 #[.agg #[.int .i64 n, sl], .int .i64 a, .int .i64 b] w fun e w' => e = .returned (.bool (bt xs a b)) ∧ Below w.heap.size w w' := by
  have := beats_any n sl xs a b w h (by omega) (by rw [tour_len hp]; omega) (by omega) (by have := hp.1; omega)
  obtain ⟨S, e, -⟩ := (tour_bits hp).1 a (by rw [tour_len hp]; exact ha)
  rwa [Int.toNat_natCast, Int.toNat_natCast, bitI_bt e] at this
end Go.Proofs.YthoodjjjklbggaaGreatDoor

namespace Go.Proofs.YthoodjjjklbggaaGreatDoor
open Go.RowKit Go.Sort
set_option maxRecDepth 100000

def toQ (p : Nat → Nat → Bool) (a b : Nat) : Bool := !(a == b) && p a b
def toL (p : Nat → Nat → Bool) (n : Nat) : List Int := (List.range n).map fun a => ((setOf (toQ p a) n : Nat) : Int)
theorem toL_len (p : Nat → Nat → Bool) (n : Nat) : (toL p n).length = n := by simp [toL]
/-- the rows that grow -/
def toRow (p : Nat → Nat → Bool) (N : List Int) (n a j : Nat) : Prop := ∀ i, i < n → N.getD i 0 = if i < a then ((setOf (toQ p i) n : Nat) : Int) else if i = a then ((setOf (toQ p a) j : Nat) : Int) else 0
theorem toRow_start {p : Nat → Nat → Bool} {n : Nat} : toRow p (List.replicate n 0) n 0 0 := fun i hi => by
  have : (List.replicate n (0 : Int)).getD i 0 = 0 := by simp [hi]
  rw [this]; simp [setOf]
theorem toRow_next {p : Nat → Nat → Bool} {N : List Int} {n a : Nat} (h : toRow p N n a n) : toRow p N n (a + 1) 0 := fun i hi => by
  rw [h i hi]
  by_cases h1 : i < a
  · rw [if_pos h1, if_pos (by omega)]
  · rw [if_neg h1]
    by_cases h2 : i = a
    · subst h2; rw [if_pos rfl, if_pos (by omega)]
    · rw [if_neg h2, if_neg (by omega)]; simp [setOf]
theorem toRow_no {p : Nat → Nat → Bool} {N : List Int} {n a j : Nat} (h : toRow p N n a j) (hq : toQ p a j = false) : toRow p N n a (j + 1) := fun i hi => by
  rw [h i hi]
  simp [setOf, hq]
theorem toRow_at {p : Nat → Nat → Bool} {N : List Int} {n a j : Nat} (h : toRow p N n a j) (ha : a < n) : N.getD a 0 = ((setOf (toQ p a) j : Nat) : Int) := by
  rw [h a ha, if_neg (by omega), if_pos rfl]
theorem setOf_or {q : Nat → Bool} {j : Nat} (hj : j ≤ 60) (hq : q j = true) : setOf q j ||| 2 ^ j = setOf q (j + 1) := by
  have h1 := setOf_lt q j
  have h2 : (setOf q j).testBit j = false := Nat.testBit_lt_two_pow h1
  have h3 : setOf q j < 2 ^ 62 := Nat.lt_of_lt_of_le h1 (Nat.pow_le_pow_right (by decide) (by omega))
  rw [← add_or h3 (by omega) h2]
  simp [setOf, hq]
theorem toRow_yes {p : Nat → Nat → Bool} {N : List Int} {n a j : Nat} {v : Nat} (hl : N.length = n) (h : toRow p N n a j) (ha : a < n) (hv : v = setOf (toQ p a) (j + 1)) : toRow p (N.set a v) n a (j + 1) := fun i hi => by
  by_cases h2 : i = a
  · subst h2
    rw [getD_set_same _ (by omega), if_neg (by omega), if_pos rfl, hv]
  · rw [getD_set_other _ (Ne.symm h2), h i hi, if_neg h2, if_neg h2]
theorem toRow_end {p : Nat → Nat → Bool} {N : List Int} {n : Nat} (hl : N.length = n) (h : toRow p N n n 0) : N = toL p n :=
  list_ext0 hl (toL_len p n) fun i hi => by
    rw [h i hi, if_pos hi]
    simp [toL, hi]
end Go.Proofs.YthoodjjjklbggaaGreatDoor

namespace Go.Proofs.YthoodjjjklbggaaGreatDoor
open Go.RowKit Go.Sort
set_option maxRecDepth 100000
section
variable {n : Nat} {xs ys : List Int}
/-- a game's sign -/
def gmB (xs : List Int) (a b : Nat) : UInt8 := if bt xs a b = true then 49 else 48
/-- a player's games against those behind -/
def gmR (xs : List Int) (a m : Nat) : List UInt8 := (List.range m).map fun k => gmB xs a (a + 1 + k)
theorem gmR_succ (xs : List Int) (a m : Nat) : gmR xs a (m + 1) = gmR xs a m ++ [gmB xs a (a + 1 + m)] := by
  unfold gmR
  rw [List.range_succ, List.map_append]
  rfl
theorem gmR_len (xs : List Int) (a m : Nat) : (gmR xs a m).length = m := by simp [gmR]
/-- the first players' games -/
def gmL (xs : List Int) (n : Nat) : Nat → List UInt8
  | 0 => []
  | k + 1 => gmL xs n k ++ gmR xs k (n - (k + 1))
/-- how many these are -/
def gmP (n : Nat) : Nat → Nat
  | 0 => 0
  | k + 1 => gmP n k + (n - (k + 1))
theorem gmL_len (xs : List Int) (n : Nat) : ∀ k, (gmL xs n k).length = gmP n k
  | 0 => rfl
  | k + 1 => by rw [gmL, gmP, List.length_append, gmR_len, gmL_len xs n k]
theorem gmP_val (n : Nat) : ∀ k, k ≤ n → 2 * gmP n k + k * k + k = 2 * (n * k)
  | 0, _ => by simp [gmP]
  | k + 1, h => by
    have ih := gmP_val n k (by omega)
    rw [gmP]
    simp only [Nat.mul_add, Nat.add_mul, Nat.mul_one, Nat.one_mul]
    omega
theorem gmP_full (n : Nat) : 2 * gmP n n + n = n * n := by have := gmP_val n n (Nat.le_refl n); omega
theorem gmP_mono {n : Nat} : ∀ {k m : Nat}, k ≤ m → gmP n k ≤ gmP n m
  | k, 0, h => by obtain rfl : k = 0 := by omega
                  exact Nat.le_refl _
  | k, m + 1, h => by
    by_cases e : k = m + 1
    · subst e; exact Nat.le_refl _
    · have := gmP_mono (n := n) (k := k) (m := m) (by omega)
      rw [gmP]; omega
theorem gmP_lt {n a b : Nat} (hab : a < b) (hb : b < n) : gmP n a + (b - (a + 1)) < gmP n n := by
  have := gmP_mono (n := n) (k := a + 1) (m := n) (by omega)
  rw [gmP] at this
  omega
theorem gmL_pre (xs : List Int) (n : Nat) {k : Nat} : ∀ {m : Nat}, k ≤ m → ∃ suf, gmL xs n m = gmL xs n k ++ suf
  | 0, h => by obtain rfl : k = 0 := by omega
               exact ⟨[], by simp⟩
  | m + 1, h => by
    by_cases e : k = m + 1
    · subst e; exact ⟨[], by simp⟩
    · obtain ⟨s, hs⟩ := gmL_pre xs n (k := k) (m := m) (by omega)
      exact ⟨s ++ gmR xs m (n - (m + 1)), by rw [gmL, hs, List.append_assoc]⟩
theorem gmL_at (xs : List Int) {n a b : Nat} (hab : a < b) (hb : b < n) : (gmL xs n n).getD (gmP n a + (b - (a + 1))) 0 = gmB xs a b := by
  obtain ⟨s, hs⟩ := gmL_pre xs n (k := a + 1) (m := n) (by omega)
  rw [hs, gmL, List.append_assoc, List.getD_eq_getElem?_getD, List.getElem?_append_right (by rw [gmL_len]; omega), gmL_len, List.getElem?_append_left (by rw [gmR_len]; omega)]
  unfold gmR
  simp only [List.getElem?_map, List.getElem?_range (show gmP n a + (b - (a + 1)) - gmP n a < n - (a + 1) by omega), Option.map_some, Option.getD_some]
  congr 1
  omega
/-- the whole text -/
def fmL (xs : List Int) (n : Nat) : List UInt8 := UInt8.ofNat (48 + n) :: 58 :: gmL xs n n
theorem fmL_len (xs : List Int) (n : Nat) : (fmL xs n).length = 2 + gmP n n := by
  unfold fmL
  rw [List.length_cons, List.length_cons, gmL_len]
  omega
/-- two tours with the same results are one -/
theorem tour_ext (hp : tourP n xs) (hq : tourP n ys) (h : ∀ a b, a < b → b < n → bt xs a b = bt ys a b) : xs = ys := by
  have hb : ∀ a b, a < n → b < n → bt xs a b = bt ys a b := fun a b ha hb => by
    rcases Nat.lt_trichotomy a b with e | e | e
    · exact h a b e hb
    · subst e; rw [(tr_bit hp ha ha).1 rfl, (tr_bit hq ha ha).1 rfl]
    · rw [(tr_bit hp ha hb).2 (by omega), (tr_bit hq ha hb).2 (by omega), h b a e ha]
  refine list_ext0 (tour_len hp) (tour_len hq) fun i hi => ?_
  have h1 := tour_wins hp (a := i) (by rw [tour_len hp]; exact hi)
  have h2 := tour_wins hq (a := i) (by rw [tour_len hq]; exact hi)
  rw [h1.1, h2.1]
  rw [show ((n : Int)).toNat = n from rfl] at h1 h2
  congr 1
  refine Nat.eq_of_testBit_eq fun j => ?_
  by_cases hj : j < n
  · exact hb i j hi hj
  · have hpow : 2 ^ n ≤ 2 ^ j := Nat.pow_le_pow_right (by decide) (by omega)
    rw [Nat.testBit_lt_two_pow (by omega), Nat.testBit_lt_two_pow (by omega)]
theorem gmL_inj (hp : tourP n xs) (hq : tourP n ys) (h : gmL xs n n = gmL ys n n) : xs = ys :=
  tour_ext hp hq fun a b hab hb => by
    have e := gmL_at xs hab hb
    rw [h, gmL_at ys hab hb] at e
    unfold gmB at e
    rcases p : bt xs a b with _ | _ <;> rcases q : bt ys a b with _ | _ <;> rw [p, q] at e <;> first | rfl | (exact absurd e (by decide))
theorem fmL_inj (hp : tourP n xs) (hq : tourP n ys) (h : fmL xs n = fmL ys n) : xs = ys := by
  unfold fmL at h
  exact gmL_inj hp hq (by simpa using h)
/-! a tour that is read out of its text -/
def hfQ (xs : List Int) (a b x y : Nat) : Bool := bt xs x y && decide ((x < a ∨ y < a) ∨ (x = a ∧ y < b) ∨ (y = a ∧ x < b))
def hfL (xs : List Int) (n a b : Nat) : List Int := (List.range n).map fun x => ((setOf (hfQ xs a b x) n : Nat) : Int)
theorem hfL_len (xs : List Int) (n a b : Nat) : (hfL xs n a b).length = n := by simp [hfL]
theorem hfL_at (xs : List Int) {n a b x : Nat} (hx : x < n) : (hfL xs n a b).getD x 0 = ((setOf (hfQ xs a b x) n : Nat) : Int) := by simp [hfL, hx]
theorem hf_start (hp : tourP n xs) : hfL xs n 0 1 = List.replicate n 0 :=
  list_ext0 (hfL_len _ _ _ _) (by simp) fun i hi => by
    rw [hfL_at xs hi, setOf_congr (q := fun _ => false) (fun j hj => ?_)]
    · have : setOf (fun _ => false) n = 0 := by
        refine Nat.eq_of_testBit_eq fun j => ?_
        rw [testBit_setOf]; simp
      rw [this]; simp [hi]
    · unfold hfQ
      by_cases e : i = j
      · subst e; rw [(tr_bit hp hi hi).1 rfl]; rfl
      · rw [decide_eq_false (by omega), Bool.and_false]
theorem hf_row (hp : tourP n xs) (a : Nat) : hfL xs n a n = hfL xs n (a + 1) (a + 2) :=
  list_ext0 (hfL_len _ _ _ _) (hfL_len _ _ _ _) fun i hi => by
    rw [hfL_at xs hi, hfL_at xs hi, setOf_congr (q := hfQ xs (a + 1) (a + 2) i) (fun j hj => ?_)]
    unfold hfQ
    by_cases e : i = j
    · subst e; rw [(tr_bit hp hi hi).1 rfl]; rfl
    · congr 1
      exact decide_eq_decide.2 (by omega)
theorem hf_end (hp : tourP n xs) (b : Nat) : hfL xs n n b = xs :=
  list_ext0 (hfL_len _ _ _ _) (tour_len hp) fun i hi => by
    have h1 := tour_wins hp (a := i) (by rw [tour_len hp]; exact hi)
    rw [hfL_at xs hi, h1.1]
    rw [show ((n : Int)).toNat = n from rfl] at h1
    congr 1
    refine (setOf_eq fun j => ?_).symm
    unfold hfQ
    rw [decide_eq_true (show (i < n ∨ j < n) ∨ (i = n ∧ j < b) ∨ (j = n ∧ i < b) by omega), Bool.and_true]
    by_cases hj : j < n
    · rw [decide_eq_true hj, Bool.true_and]; try rfl
    · have hpow : 2 ^ n ≤ 2 ^ j := Nat.pow_le_pow_right (by decide) (by omega)
      rw [Nat.testBit_lt_two_pow (by omega), decide_eq_false hj, Bool.false_and]
theorem hf_step (hp : tourP n xs) {a b u v : Nat} (hab : a < b) (hb : b < n) (huv : (u = a ∧ v = b) ∨ (u = b ∧ v = a)) (hw : bt xs u v = true) :
    hfL xs n a (b + 1) = (hfL xs n a b).set u (((setOf (hfQ xs a b u) n ||| 2 ^ v : Nat)) : Int) ∧ setOf (hfQ xs a b u) n ||| 2 ^ v < 2 ^ n := by
  have hu : u < n := by omega
  have hv : v < n := by omega
  have hne : u ≠ v := by omega
  have hl : bt xs v u = false := by
    have := (tr_bit hp hu hv).2 hne
    rw [hw] at this
    simpa using this.symm
  refine ⟨?_, Nat.or_lt_two_pow (setOf_lt _ _) (Nat.pow_lt_pow_right (by decide) hv)⟩
  refine list_ext0 (hfL_len _ _ _ _) (by simp [hfL_len]) fun i hi => ?_
  rw [hfL_at xs hi]
  by_cases e : i = u
  · subst e
    rw [getD_set_same _ (by rw [hfL_len]; exact hi)]
    congr 1
    refine (setOf_eq fun j => ?_).symm
    rw [Nat.testBit_or, testBit_setOf, Nat.testBit_two_pow]
    by_cases ej : v = j
    · subst ej
      unfold hfQ
      rw [decide_eq_true hv, hw, decide_eq_true (show (i < a ∨ v < a) ∨ (i = a ∧ v < b + 1) ∨ (v = a ∧ i < b + 1) by omega)]
      simp
    · rw [decide_eq_false ej, Bool.or_false]
      by_cases hj : j < n
      · congr 1
        unfold hfQ
        congr 1
        exact decide_eq_decide.2 (by omega)
      · rw [decide_eq_false hj, Bool.false_and, Bool.false_and]
  · rw [getD_set_other _ (Ne.symm e), hfL_at xs hi, setOf_congr (q := hfQ xs a b i) (fun j hj => ?_)]
    unfold hfQ
    by_cases ei : i = v ∧ j = u
    · obtain ⟨rfl, rfl⟩ := ei
      rw [hl]; rfl
    · congr 1
      exact decide_eq_decide.2 (by omega)
end
end Go.Proofs.YthoodjjjklbggaaGreatDoor

namespace Go.Proofs.YthoodjjjklbggaaGreatDoor
open Go.RowKit Go.Sort
set_option maxRecDepth 100000
variable {n : Nat} {sl sl2 : Value} {xs ys : List Int} {w : World}
/-- how many games differ -/
def dfK (xs ys : List Int) (n k : Nat) : Nat := ((List.range k).map fun a => (List.range n).countP fun b => bt xs a b && !bt ys a b).sum
theorem dfK_succ (xs ys : List Int) (n k : Nat) : dfK xs ys n (k + 1) = dfK xs ys n k + (List.range n).countP fun b => bt xs k b && !bt ys k b := by
  unfold dfK
  rw [List.range_succ, List.map_append, List.sum_append]
  simp
theorem dfK_le (xs ys : List Int) (n k : Nat) : dfK xs ys n k ≤ k * n := by
  induction k with
  | zero => simp [dfK]
  | succ k ih =>
    rw [dfK_succ, Nat.succ_mul]
    have : (List.range n).countP (fun b => bt xs k b && !bt ys k b) ≤ n := Nat.le_trans List.countP_le_length (by rw [List.length_range]; exact Nat.le_refl _)
    omega
theorem df_pop {a : Nat} (hp : tourP n xs) (ha : a < n) : popN 8 (less (winsN xs a) (winsN ys a)) = (List.range n).countP fun b => bt xs a b && !bt ys a b := by
  have h8 : n ≤ 8 := by have := hp.1; omega
  have hw := (tour_wins hp (a := a) (by rw [tour_len hp]; exact ha)).2
  have hn : winsN xs a < 2 ^ n := by have := hw.1; rwa [show ((n : Int)).toNat = n from rfl] at this
  have hlt := less_lt (b := winsN ys a) hn
  rw [pop_mem (Nat.lt_of_lt_of_le hlt (pow_le h8)), memN_top h8 (Nat.div_eq_of_lt hlt)]
  unfold memN
  rw [← List.countP_eq_length_filter]
  refine List.countP_congr fun b _ => ?_
  rw [testBit_less]
set_option maxHeartbeats 4000000 in
theorem cDiff (hp : tourP n xs) (h : Rd w sl xs) (hp2 : tourP n ys) (h2 : Rd w sl2 ys) :
    Calls Tryz.prog 12 #[.agg #[.int .i64 n, sl], .agg #[.int .i64 n, sl2]] w fun e w' => e = .returned (.int .i64 (dfK xs ys n n : Nat)) ∧ Below w.heap.size w w' := by
  have HR := Lib.hid h
  obtain ⟨g, off, c, rfl, hm, hg, hx⟩ := tour_cells h hp
  have HR2 := Lib.hid h2
  obtain ⟨g2, off2, c2, rfl, hm2, hg2, hx2⟩ := tour_cells h2 hp2
  rw [tour_len hp] at HR hx ⊢
  rw [tour_len hp2] at HR2 hx2 ⊢
  unfold maxLen at hm hm2
  have h1 : 1 ≤ n := by have := hp.1; omega
  have h8 : n ≤ 8 := by have := hp.1; omega
  have HX := Lib.hid (fun k (hk : k < n) => (show w.cell? ⟨g, off + k, none⟩ = some (.int .i64 (winsN xs k : Nat)) from by
    exact hx k hk))
  have HX2 := Lib.hid (fun k (hk : k < n) => (show w.cell? ⟨g2, off2 + k, none⟩ = some (.int .i64 (winsN ys k : Nat)) from by
    exact hx2 k hk))
  have HW := Lib.hid (fun k (hk : k < n) => (tour_wins hp (a := k) (by rw [tour_len hp]; exact hk)).2.2)
  have HW2 := Lib.hid (fun k (hk : k < n) => (tour_wins hp2 (a := k) (by rw [tour_len hp2]; exact hk)).2.2)
  have HDP := Lib.hid (fun k (hk : k < n) => df_pop (ys := ys) hp hk)
  have HDS := Lib.hid (fun k => dfK_succ xs ys n k)
  have HDL := Lib.hid (fun k => dfK_le xs ys n k)
  have HP := Lib.hid hp
  have HP2 := Lib.hid hp2
  clear hp hp2 hx hx2 h h2
  go_enter Tryz.func12, Tryz.ntmps12
  have bx := (below_alloc1 w (.cells #[.int .i64 n, .slice (some ⟨g, off, none⟩) n c] 25)).alloc (by simp) (.cells #[.int .i64 n, .slice (some ⟨g2, off2, none⟩) n c2] 25)
  have tx := (TBox.new w n (.slice (some ⟨g, off, none⟩) n c) 25).below (below_alloc1 _ (.cells #[.int .i64 n, .slice (some ⟨g2, off2, none⟩) n c2] 25))
  have tx2 := TBox.new (w.alloc (.cells #[.int .i64 n, .slice (some ⟨g, off, none⟩) n c] 25)) n (.slice (some ⟨g2, off2, none⟩) n c2) 25
  simp only [World.size_alloc] at tx2
  go_wp2_with fail
  generalize (w.alloc (.cells #[.int .i64 n, .slice (some ⟨g, off, none⟩) n c] 25)).alloc (.cells #[.int .i64 n, .slice (some ⟨g2, off2, none⟩) n c2] 25) = w0 at *
  have HB0 := Lib.hid bx
  have HA0 := Lib.hid tx
  have HC0 := Lib.hid tx2
  clear bx tx tx2
  have y0 := HA0.out.1
  have y1 := HA0.out.2
  have x0 := HC0.out.1
  have x1 := HC0.out.2
  go_wp2_with fail
  refine (implTourOk n _ xs _ (HR.out.below HB0.out)).mono ?_
  rintro e w1 ⟨rfl, hb1⟩
  rw [tourB_true.2 HP.out]
  have HA1 := Lib.hid (HA0.out.below hb1)
  have HC1 := Lib.hid (HC0.out.below hb1)
  have HB1 := Lib.hid (Below.then HB0.out hb1)
  clear hb1 y0 y1 x0 x1 HA0 HC0 HB0
  have y0 := HA1.out.1
  have y1 := HA1.out.2
  have x0 := HC1.out.1
  have x1 := HC1.out.2
  go_wp2_with fail
  refine (implTourOk n _ ys _ (HR2.out.below HB1.out)).mono ?_
  rintro e w2 ⟨rfl, hb2⟩
  rw [tourB_true.2 HP2.out]
  have HA2 := Lib.hid (HA1.out.below hb2)
  have HC2 := Lib.hid (HC1.out.below hb2)
  have HB2 := Lib.hid (Below.then HB1.out hb2)
  clear hb2 y0 y1 x0 x1 HA1 HC1 HB1
  have y0 := HA2.out.1
  have y1 := HA2.out.2
  have x0 := HC2.out.1
  have x1 := HC2.out.2
  go_wp2
  go_loop [5, 26] (fun t5 t26 => ∃ k : Nat, k ≤ n ∧ t26 = .int .i64 k ∧ t5 = .int .i64 (dfK xs ys n k : Nat)) (fun _ t26 => n - (intOf t26).toNat)
  case atStart => exact ⟨0, by omega, rfl, rfl⟩
  case round =>
    obtain ⟨k, hk, rfl, rfl⟩ := hrel
    by_cases hlt : k < n
    · have z0 := (HB2.out.cell (by exact hg)).trans (HX.out k hlt)
      have z1 := (HB2.out.cell (by exact hg2)).trans (HX2.out k hlt)
      have hw := HW.out k hlt
      have hw2 := HW2.out k hlt
      have hpop := HDP.out k hlt
      have HSU := Lib.hid (HDS.out k)
      have hle := HDL.out k
      have hkn : k * n ≤ 8 * 8 := Nat.mul_le_mul (by omega) h8
      have hle2 := popN_le 8 (less (winsN xs k) (winsN ys k))
      have HPO := Lib.hid hpop
      have hand := i64_andNot_nat (winsN xs k) (winsN ys k) (by omega) (by omega)
      have hl256 : less (winsN xs k) (winsN ys k) < 256 := less_lt (n := 8) (by omega)
      clear hpop
      generalize less (winsN xs k) (winsN ys k) = L at *
      generalize winsN xs k = X at *
      generalize winsN ys k = Y at *
      go_wp2_with fail
      refine (ones_any L _ hl256).mono ?_
      rintro e w3 ⟨rfl, rfl⟩
      rw [HPO.out] at hle2 ⊢
      go_wp2
      go_round
      case rel => exact ⟨k + 1, by omega, by go_num, by rw [HSU.out]; go_num⟩
      case measure => simp [intOf]; omega
    · obtain rfl : k = n := by omega
      go_wp2
      go_ret
      exact ⟨rfl, HB2.out⟩
end Go.Proofs.YthoodjjjklbggaaGreatDoor

namespace Go.Proofs.YthoodjjjklbggaaGreatDoor
open Go.RowKit Go.Sort
set_option maxRecDepth 100000
section
variable {n : Nat} {xs ys zs : List Int}
/-- a triangle of a tour -/
def tgP (xs : List Int) (n a b c : Nat) : Prop := a < n ∧ b < n ∧ c < n ∧ a < b ∧ a < c ∧ bt xs a b = true ∧ bt xs b c = true ∧ bt xs c a = true
theorem tg_bit (hp : tourP n xs) {a b : Nat} (ha : a < n) : btI xs a b = bt xs a b := by
  unfold btI
  exact bitI_bt (tour_wins hp (a := a) (by rw [tour_len hp]; exact ha)).1
theorem tg_iff (hp : tourP n xs) {a b c : Nat} (ha : a < n) (hb : b < n) (hc : c < n) : triP xs a b c = true ↔ tgP xs n a b c := by
  unfold triP tgP
  rw [tg_bit hp ha, tg_bit hp hb, tg_bit hp hc]
  simp only [Bool.and_eq_true, decide_eq_true_eq]
  constructor
  · rintro ⟨h1, h2, h3, h4, h5⟩; exact ⟨ha, hb, hc, h1, h2, h3, h4, h5⟩
  · rintro ⟨-, -, -, h1, h2, h3, h4, h5⟩; exact ⟨h1, h2, h3, h4, h5⟩
theorem tg_ne (hp : tourP n xs) {a b c : Nat} (h : tgP xs n a b c) : a ≠ b ∧ b ≠ c ∧ a ≠ c := by
  obtain ⟨ha, hb, hc, h1, h2, h3, h4, h5⟩ := h
  refine ⟨by omega, fun e => ?_, by omega⟩
  subst e
  rw [(tr_bit hp hb hb).1 rfl] at h4
  cases h4
/-- the row of a triangle is among the tour's triangles -/
theorem mem_tri (hp : tourP n xs) {r : List Int} : r ∈ triA xs n n ↔ ∃ a b c : Nat, r = [(a : Int), (b : Int), (c : Int)] ∧ tgP xs n a b c := by
  unfold triA triB triC
  simp only [List.mem_flatMap, List.mem_range, List.mem_map, List.mem_filter]
  constructor
  · rintro ⟨a, ha, b, hb, c, ⟨hc, h⟩, rfl⟩
    exact ⟨a, b, c, rfl, (tg_iff hp ha hb hc).1 h⟩
  · rintro ⟨a, b, c, rfl, h⟩
    exact ⟨a, h.1, b, h.2.1, c, ⟨h.2.2.1, (tg_iff hp h.1 h.2.1 h.2.2.1).2 h⟩, rfl⟩
/-- a triangle reversed -/
def rv3 (xs : List Int) (a b c : Nat) : List Int := flipL (flipL (flipL xs a b) b c) c a
def tE (a b c x y : Nat) : Bool := ((x == a && y == b) || (x == b && y == a)) ^^ (((x == b && y == c) || (x == c && y == b)) ^^ ((x == c && y == a) || (x == a && y == c)))
theorem rv3_tour (hp : tourP n xs) {a b c : Nat} (ha : a < n) (hb : b < n) (hc : c < n) (hab : a ≠ b) (hbc : b ≠ c) (hac : a ≠ c) : tourP n (rv3 xs a b c) :=
  flip_tourN (flip_tourN (flip_tourN hp ha hb hab) hb hc hbc) hc ha (Ne.symm hac)
theorem rv3_bt (hp : tourP n xs) {a b c : Nat} (ha : a < n) (hb : b < n) (hc : c < n) (hab : a ≠ b) (hbc : b ≠ c) (hac : a ≠ c) {x y : Nat} (hx : x < n) : bt (rv3 xs a b c) x y = (bt xs x y ^^ tE a b c x y) := by
  have h1 := flip_tourN hp ha hb hab
  have h2 := flip_tourN h1 hb hc hbc
  unfold rv3 tE
  rw [flip_btN h2 hc ha (Ne.symm hac) hx, flip_btN h1 hb hc hbc hx, flip_btN hp ha hb hab hx]
  simp only [Bool.xor_assoc]
theorem tE_turn (a b c x y : Nat) : tE a c b x y = tE a b c x y := by
  unfold tE
  generalize (x == a) = p1; generalize (x == b) = p2; generalize (x == c) = p3
  generalize (y == a) = q1; generalize (y == b) = q2; generalize (y == c) = q3
  cases p1 <;> cases p2 <;> cases p3 <;> cases q1 <;> cases q2 <;> cases q3 <;> rfl
theorem tE_at {a b c : Nat} (hab : a ≠ b) (hbc : b ≠ c) (hac : a ≠ c) : tE a b c a b = true ∧ tE a b c b a = true ∧ tE a b c b c = true ∧ tE a b c c b = true ∧ tE a b c c a = true ∧ tE a b c a c = true := by
  have e1 : (a == b) = false := by simpa using hab
  have e2 : (b == c) = false := by simpa using hbc
  have e3 : (a == c) = false := by simpa using hac
  have e4 : (b == a) = false := by simpa using Ne.symm hab
  have e5 : (c == b) = false := by simpa using Ne.symm hbc
  have e6 : (c == a) = false := by simpa using Ne.symm hac
  unfold tE
  simp [e1, e2, e3, e4, e5, e6]
/-- behind the reversal it is a triangle the other way round -/
theorem tg_back (hp : tourP n xs) {a b c : Nat} (h : tgP xs n a b c) : tgP (rv3 xs a b c) n a c b := by
  obtain ⟨n1, n2, n3⟩ := tg_ne hp h
  obtain ⟨ha, hb, hc, h1, h2, h3, h4, h5⟩ := h
  have hB := fun (x y : Nat) (hx : x < n) => rv3_bt hp ha hb hc n1 n2 n3 (x := x) (y := y) hx
  obtain ⟨t1, t2, t3, t4, t5, t6⟩ := tE_at n1 n2 n3
  have k1 : bt xs b a = false := by have := (tr_bit hp hb ha).2 (Ne.symm n1); rw [h3] at this; exact this
  have k2 : bt xs c b = false := by have := (tr_bit hp hc hb).2 (Ne.symm n2); rw [h4] at this; exact this
  have k3 : bt xs a c = false := by have := (tr_bit hp ha hc).2 n3; rw [h5] at this; exact this
  refine ⟨ha, hc, hb, h2, h1, ?_, ?_, ?_⟩
  · rw [hB a c ha, k3, t6]; rfl
  · rw [hB c b hc, k2, t4]; rfl
  · rw [hB b a hb, k1, t2]; rfl
theorem rv3_back (hp : tourP n xs) {a b c : Nat} (h : tgP xs n a b c) : rv3 (rv3 xs a b c) a c b = xs := by
  obtain ⟨n1, n2, n3⟩ := tg_ne hp h
  obtain ⟨ha, hb, hc, -⟩ := h
  have hq := rv3_tour hp ha hb hc n1 n2 n3
  refine tour_ext (rv3_tour hq ha hc hb n3 (Ne.symm n2) n1) hp fun x y hxy hy => ?_
  rw [rv3_bt hq ha hc hb n3 (Ne.symm n2) n1 (by omega), rv3_bt hp ha hb hc n1 n2 n3 (by omega), tE_turn a b c x y, Bool.xor_assoc, Bool.xor_self, Bool.xor_false]
/-- one reversal leads from xs to ys -/
def tAdj (n : Nat) (xs ys : List Int) : Prop := ∃ a b c, tgP xs n a b c ∧ ys = rv3 xs a b c
theorem tAdj.tour (hp : tourP n xs) (h : tAdj n xs ys) : tourP n ys := by
  obtain ⟨a, b, c, h, rfl⟩ := h
  obtain ⟨n1, n2, n3⟩ := tg_ne hp h
  exact rv3_tour hp h.1 h.2.1 h.2.2.1 n1 n2 n3
theorem tAdj.symm (hp : tourP n xs) (h : tAdj n xs ys) : tAdj n ys xs := by
  obtain ⟨a, b, c, h, rfl⟩ := h
  exact ⟨a, c, b, tg_back hp h, (rv3_back hp h).symm⟩
/-- k reversals lead from xs to ys -/
def tWk (n : Nat) : Nat → List Int → List Int → Prop
  | 0, xs, ys => xs = ys
  | k + 1, xs, ys => ∃ zs, tAdj n xs zs ∧ tWk n k zs ys
theorem tWk.tour : ∀ {k : Nat} {xs : List Int}, tourP n xs → tWk n k xs ys → tourP n ys
  | 0, _, hp, h => by cases h; exact hp
  | _ + 1, _, hp, ⟨_, h1, h2⟩ => tWk.tour (h1.tour hp) h2
theorem tWk.snoc : ∀ {k : Nat} {xs : List Int}, tWk n k xs ys → tAdj n ys zs → tWk n (k + 1) xs zs
  | 0, _, h, h2 => by cases h; exact ⟨_, h2, rfl⟩
  | _ + 1, _, ⟨w, h1, h2⟩, h3 => ⟨w, h1, tWk.snoc h2 h3⟩
theorem tWk.symm : ∀ {k : Nat} {xs : List Int}, tourP n xs → tWk n k xs ys → tWk n k ys xs
  | 0, _, _, h => by cases h; rfl
  | _ + 1, _, hp, ⟨_, h1, h2⟩ => (tWk.symm (h1.tour hp) h2).snoc (h1.symm hp)
theorem tWk.last : ∀ {k : Nat} {xs : List Int}, tWk n (k + 1) xs ys → ∃ w, tWk n k xs w ∧ tAdj n w ys
  | 0, _, ⟨w, h1, h2⟩ => by cases h2; exact ⟨_, rfl, h1⟩
  | _ + 1, _, ⟨w, h1, h2⟩ => by
    obtain ⟨v, h3, h4⟩ := tWk.last h2
    exact ⟨v, ⟨w, h1, h3⟩, h4⟩
theorem tWk.trans : ∀ {j : Nat} {k : Nat} {xs : List Int}, tWk n j xs ys → tWk n k ys zs → tWk n (j + k) xs zs
  | 0, k, _, h, h2 => by cases h; rw [Nat.zero_add]; exact h2
  | j + 1, k, _, ⟨w, h1, h2⟩, h3 => by rw [Nat.succ_add]; exact ⟨w, h1, tWk.trans h2 h3⟩
/-- ys is reached from xs -/
def tRe (n : Nat) (xs ys : List Int) : Prop := ∃ k, tWk n k xs ys
theorem exists_least {p : Nat → Prop} : ∀ k, p k → ∃ m, p m ∧ ∀ j, p j → m ≤ j := by
  intro k
  induction k using Nat.strongRecOn with
  | ind k ih =>
    intro hk
    by_cases h : ∃ j, j < k ∧ p j
    · obtain ⟨j, hj, hpj⟩ := h
      exact ih j hj hpj
    · exact ⟨k, hk, fun j hj => Nat.le_of_not_lt fun hlt => h ⟨j, hlt, hj⟩⟩
/-- how many reversals are wanted -/
noncomputable def tD (n : Nat) (xs ys : List Int) : Nat := open Classical in if h : ∃ m, tWk n m xs ys ∧ ∀ j, tWk n j xs ys → m ≤ j then Classical.choose h else 0
theorem tD_spec (h : tRe n xs ys) : tWk n (tD n xs ys) xs ys ∧ ∀ j, tWk n j xs ys → tD n xs ys ≤ j := by
  obtain ⟨k, hk⟩ := h
  have hx := exists_least (p := fun k => tWk n k xs ys) k hk
  unfold tD
  rw [dif_pos hx]
  exact Classical.choose_spec hx
theorem tD_self (n : Nat) (xs : List Int) : tD n xs xs = 0 := Nat.le_zero.1 ((tD_spec ⟨0, rfl⟩).2 0 rfl)
theorem tRe.snoc (h : tRe n xs ys) (h2 : tAdj n ys zs) : tRe n xs zs := by
  obtain ⟨k, hk⟩ := h
  exact ⟨k + 1, hk.snoc h2⟩
theorem tRe.symm (hp : tourP n xs) (h : tRe n xs ys) : tRe n ys xs := by
  obtain ⟨k, hk⟩ := h
  exact ⟨k, hk.symm hp⟩
theorem tRe.trans (h : tRe n xs ys) (h2 : tRe n ys zs) : tRe n xs zs := by
  obtain ⟨j, hj⟩ := h
  obtain ⟨k, hk⟩ := h2
  exact ⟨j + k, hj.trans hk⟩
theorem tD_symm (hp : tourP n xs) (h : tRe n xs ys) : tD n xs ys = tD n ys xs := by
  have h1 := tD_spec h
  have hq : tourP n ys := h1.1.tour hp
  have h2 := tD_spec (h.symm hp)
  exact Nat.le_antisymm (h1.2 _ (h2.1.symm hq)) (h2.2 _ (h1.1.symm hp))
theorem tD_zero (h : tRe n xs ys) : tD n xs ys = 0 ↔ xs = ys := by
  constructor
  · intro e
    have := (tD_spec h).1
    rw [e] at this
    exact this
  · rintro rfl
    exact tD_self n xs
theorem tD_adj (h : tRe n xs ys) (h2 : tAdj n ys zs) : tD n xs zs ≤ tD n xs ys + 1 := (tD_spec (h.snoc h2)).2 _ ((tD_spec h).1.snoc h2)
/-- a reached tour that is not the first has a neighbour that is nearer -/
theorem tD_pred (h : tRe n xs ys) (h0 : 0 < tD n xs ys) : ∃ w, tRe n xs w ∧ tAdj n w ys ∧ tD n xs w + 1 = tD n xs ys := by
  obtain ⟨m, hm⟩ : ∃ m, tD n xs ys = m + 1 := ⟨tD n xs ys - 1, by omega⟩
  have hs := tD_spec h
  rw [hm] at hs
  obtain ⟨w, h1, h2⟩ := hs.1.last
  have hw : tRe n xs w := ⟨m, h1⟩
  have e1 := (tD_spec hw).2 m h1
  have e2 := tD_adj hw h2
  exact ⟨w, hw, h2, by omega⟩
end
end Go.Proofs.YthoodjjjklbggaaGreatDoor

namespace Go.Proofs.YthoodjjjklbggaaGreatDoor
open Go.RowKit Go.Sort
set_option maxRecDepth 100000
def digV (c : Nat) (l : List UInt8) : Nat := l.foldl (fun c d => 2 * c + if d = 49 then 1 else 0) c
theorem digV_lt : ∀ (l m : List UInt8) (c : Nat), l.length = m.length → ∀ d, c < d → digV c l < digV d m
  | [], m, c, h, d, hc => by
    obtain rfl : m = [] := List.eq_nil_of_length_eq_zero h.symm
    exact hc
  | x :: l, y :: m, c, h, d, hc => by
    refine digV_lt l m _ (by simpa using h) _ ?_
    show 2 * c + (if x = 49 then 1 else 0) < 2 * d + (if y = 49 then 1 else 0)
    split <;> split <;> omega
theorem digV_less : ∀ (l m : List UInt8) (c : Nat), (∀ x ∈ l, x = 48 ∨ x = 49) → (∀ x ∈ m, x = 48 ∨ x = 49) → l.length = m.length → digV c l < digV c m → Op.bytesLess l m = true
  | [], m, c, _, _, h, hc => by
    obtain rfl : m = [] := List.eq_nil_of_length_eq_zero h.symm
    exact absurd hc (Nat.lt_irrefl _)
  | x :: l, y :: m, c, h1, h2, h, hc => by
    have hl : l.length = m.length := by simpa using h
    have hx := h1 x (by simp)
    have hy := h2 y (by simp)
    have step : ∀ e, (digV (2 * c + e) l < digV (2 * c + e) m) → Op.bytesLess l m = true := fun e he => digV_less l m _ (fun z hz => h1 z (by simp [hz])) (fun z hz => h2 z (by simp [hz])) hl he
    have hc' : digV (2 * c + if x = 49 then 1 else 0) l < digV (2 * c + if y = 49 then 1 else 0) m := hc
    unfold Op.bytesLess
    rcases hx with rfl | rfl <;> rcases hy with rfl | rfl
    · simp only [Bool.or_eq_true, Bool.and_eq_true]
      exact .inr ⟨by decide, step _ hc'⟩
    · simp only [Bool.or_eq_true]
      exact .inl (by decide)
    · have := digV_lt m l (2 * c + if (48 : UInt8) = 49 then 1 else 0) hl.symm (2 * c + if (49 : UInt8) = 49 then 1 else 0) (by simp)
      omega
    · simp only [Bool.or_eq_true, Bool.and_eq_true]
      exact .inr ⟨by decide, step _ hc'⟩
theorem gm_dig (xs : List Int) (n : Nat) : ∀ k, ∀ x ∈ gmL xs n k, x = 48 ∨ x = 49
  | 0, x, hx => by cases hx
  | k + 1, x, hx => by
    rw [gmL, List.mem_append] at hx
    rcases hx with hx | hx
    · exact gm_dig xs n k x hx
    · unfold gmR at hx
      rw [List.mem_map] at hx
      obtain ⟨i, -, rfl⟩ := hx
      unfold gmB
      split <;> simp
theorem digV_bound : ∀ (l : List UInt8) (c : Nat), digV c l < (c + 1) * 2 ^ l.length
  | [], c => by simp [digV]
  | x :: l, c => by
    have h := digV_bound l (2 * c + if x = 49 then 1 else 0)
    have e : (2 * c + (if x = 49 then 1 else 0) + 1) * 2 ^ l.length ≤ (c + 1) * 2 ^ (l.length + 1) := by
      rw [Nat.pow_succ, Nat.mul_comm (2 ^ l.length) 2, ← Nat.mul_assoc]
      exact Nat.mul_le_mul_right _ (by split <;> omega)
    exact Nat.lt_of_lt_of_le h e
theorem digV_inj : ∀ (l m : List UInt8) (c : Nat), (∀ x ∈ l, x = 48 ∨ x = 49) → (∀ x ∈ m, x = 48 ∨ x = 49) → l.length = m.length → digV c l = digV c m → l = m
  | [], m, c, _, _, h, _ => (List.eq_nil_of_length_eq_zero h.symm).symm
  | x :: l, y :: m, c, h1, h2, h, hc => by
    have hl : l.length = m.length := by simpa using h
    have hx := h1 x (by simp)
    have hy := h2 y (by simp)
    have hc' : digV (2 * c + if x = 49 then 1 else 0) l = digV (2 * c + if y = 49 then 1 else 0) m := hc
    have step : ∀ e, digV (2 * c + e) l = digV (2 * c + e) m → l = m := fun e he => digV_inj l m _ (fun z hz => h1 z (by simp [hz])) (fun z hz => h2 z (by simp [hz])) hl he
    rcases hx with rfl | rfl <;> rcases hy with rfl | rfl
    · rw [step _ hc']
    · have := digV_lt l m (2 * c + if (48 : UInt8) = 49 then 1 else 0) hl (2 * c + if (49 : UInt8) = 49 then 1 else 0) (by simp)
      omega
    · have := digV_lt m l (2 * c + if (48 : UInt8) = 49 then 1 else 0) hl.symm (2 * c + if (49 : UInt8) = 49 then 1 else 0) (by simp)
      omega
    · rw [step _ hc']
end Go.Proofs.YthoodjjjklbggaaGreatDoor

namespace Go.Proofs.YthoodjjjklbggaaGreatDoor
open Go.RowKit Go.Sort
set_option maxRecDepth 100000
section
variable {n : Nat} {u q y : List Int} {K Q : List (List Int)}
/-- what holds between two rounds: K the tours that are known, Q those that wait -/
structure BfI (n : Nat) (u : List Int) (K Q : List (List Int)) : Prop where
  nd : K.Nodup
  tr : ∀ x ∈ K, tourP n x
  re : ∀ x ∈ K, tRe n u x
  src : u ∈ K
  qk : ∀ x ∈ Q, x ∈ K
  so : Q.Pairwise fun x y => tD n u x ≤ tD n u y ∧ tD n u y ≤ tD n u x + 1
  cl : ∀ x ∈ K, x ∈ Q ∨ ∀ y, tAdj n x y → y ∈ K
theorem BfI.start (hp : tourP n u) : BfI n u [u] [u] :=
  ⟨by simp, fun x hx => by rw [List.mem_singleton] at hx; rw [hx]; exact hp, fun x hx => by rw [List.mem_singleton] at hx; rw [hx]; exact ⟨0, rfl⟩, by simp, fun x hx => hx, by simp, fun x hx => .inl hx⟩
theorem BfI.head (h : BfI n u K (q :: Q)) : ∀ x ∈ q :: Q, tD n u q ≤ tD n u x ∧ tD n u x ≤ tD n u q + 1 := fun x hx => by
  rcases List.mem_cons.1 hx with rfl | hx
  · omega
  · exact (List.pairwise_cons.1 h.so).1 x hx
/-- what is as near as the first that waits is known -/
theorem BfI.near (h : BfI n u K (q :: Q)) : ∀ (d : Nat) (z : List Int), tRe n u z → tD n u z = d → d ≤ tD n u q → z ∈ K := by
  intro d
  induction d with
  | zero =>
    intro z hz e _
    rw [← (tD_zero hz).1 e]
    exact h.src
  | succ d ih =>
    intro z hz e hd
    obtain ⟨p, hp, ha, e2⟩ := tD_pred hz (by omega)
    have hpK := ih p hp (by omega) (by omega)
    rcases h.cl p hpK with hq | hc
    · have := (h.head p hq).1
      omega
    · exact hc z ha
theorem BfI.add (h : BfI n u K (q :: Q)) (ha : tAdj n q y) (hn : y ∉ K) : BfI n u (K ++ [y]) (q :: (Q ++ [y])) ∧ tD n u y = tD n u q + 1 := by
  have hqK := h.qk q (by simp)
  have hqr := h.re q hqK
  have hyr : tRe n u y := hqr.snoc ha
  have hyt : tourP n y := ha.tour (h.tr q hqK)
  have e : tD n u y = tD n u q + 1 := by
    have h1 := tD_adj hqr ha
    by_cases h2 : tD n u y ≤ tD n u q
    · exact absurd (h.near _ y hyr rfl h2) hn
    · omega
  refine ⟨⟨?_, ?_, ?_, ?_, ?_, ?_, ?_⟩, e⟩
  · rw [List.nodup_append]
    refine ⟨h.nd, by simp, fun a ha b hb hab => ?_⟩
    rw [List.mem_singleton] at hb
    rw [hab, hb] at ha
    exact hn ha
  · intro x hx
    rcases List.mem_append.1 hx with hx | hx
    · exact h.tr x hx
    · rw [List.mem_singleton] at hx; rw [hx]; exact hyt
  · intro x hx
    rcases List.mem_append.1 hx with hx | hx
    · exact h.re x hx
    · rw [List.mem_singleton] at hx; rw [hx]; exact hyr
  · exact List.mem_append_left _ h.src
  · intro x hx
    rw [← List.cons_append] at hx
    rcases List.mem_append.1 hx with hx | hx
    · exact List.mem_append_left _ (h.qk x hx)
    · exact List.mem_append_right _ hx
  · rw [← List.cons_append, List.pairwise_append]
    refine ⟨h.so, by simp, fun x hx z hz => ?_⟩
    rw [List.mem_singleton] at hz
    rw [hz, e]
    have := h.head x hx
    omega
  · intro x hx
    rcases List.mem_append.1 hx with hx | hx
    · rcases h.cl x hx with hq | hc
      · exact .inl (by rw [← List.cons_append]; exact List.mem_append_left _ hq)
      · exact .inr fun z hz => List.mem_append_left _ (hc z hz)
    · exact .inl (by rw [← List.cons_append]; exact List.mem_append_right _ hx)
theorem BfI.pop (h : BfI n u K (q :: Q)) (hc : ∀ y, tAdj n q y → y ∈ K) : BfI n u K Q :=
  ⟨h.nd, h.tr, h.re, h.src, fun x hx => h.qk x (by simp [hx]), (List.pairwise_cons.1 h.so).2, fun x hx => by
    rcases h.cl x hx with hq | h2
    · rcases List.mem_cons.1 hq with rfl | hq
      · exact .inr hc
      · exact .inl hq
    · exact .inr h2⟩
theorem BfI.full (h : BfI n u K []) : ∀ {k : Nat} {z : List Int}, tWk n k u z → z ∈ K := by
  intro k
  induction k with
  | zero => intro z hz; cases hz; exact h.src
  | succ k ih =>
    intro z hz
    obtain ⟨p, h1, h2⟩ := hz.last
    rcases h.cl p (ih h1) with hq | hc
    · cases hq
    · exact hc z h2
theorem nodup_sub {l m : List (List Int)} (hn : l.Nodup) (h : ∀ x ∈ l, x ∈ m) : l.length ≤ m.length := by
  induction l generalizing m with
  | nil => simp
  | cons a l ih =>
    rw [List.nodup_cons] at hn
    have h1 := ih (m := m.erase a) hn.2 (fun x hx => (List.mem_erase_of_ne (fun e => hn.1 (by rw [← e]; exact hx))).2 (h x (by simp [hx])))
    have h2 := h a (by simp)
    rw [List.length_erase_of_mem h2] at h1
    have := List.length_pos_of_mem h2
    rw [List.length_cons]
    omega
theorem nodup_lt : ∀ (N : Nat) (l : List Nat), l.Nodup → (∀ x ∈ l, x < N) → l.length ≤ N
  | 0, l, _, h => by
    cases l with
    | nil => simp
    | cons a l => exact absurd (h a (by simp)) (by omega)
  | N + 1, l, hn, h => by
    by_cases hm : N ∈ l
    · have h1 := nodup_lt N (l.erase N) (hn.erase N) (fun x hx => by
        have h2 := h x (List.mem_of_mem_erase hx)
        have h3 : x ≠ N := fun e => by subst e; exact (hn.not_mem_erase) hx
        omega)
      rw [List.length_erase_of_mem hm] at h1
      omega
    · have h1 := nodup_lt N l hn (fun x hx => by
        have h2 := h x hx
        have h3 : x ≠ N := fun e => by subst e; exact hm hx
        omega)
      omega
theorem BfI.bound (h : BfI n u K Q) (h5 : n ≤ 5) : K.length ≤ 1024 := by
  have hg : gmP n n ≤ 10 := by
    have := gmP_full n
    have := Nat.mul_le_mul h5 h5
    rcases (show n = 5 ∨ n ≤ 4 by omega) with rfl | h4
    · decide
    · have := Nat.mul_le_mul h4 h4
      omega
  have h1 := nodup_lt 1024 (K.map fun x => digV 0 (gmL x n n)) (by
    rw [List.nodup_iff_pairwise_ne, List.pairwise_map]
    refine List.Pairwise.imp_of_mem (fun {a b} ha hb hab e => hab ?_) (List.nodup_iff_pairwise_ne.1 h.nd)
    exact gmL_inj (h.tr a ha) (h.tr b hb) (digV_inj _ _ 0 (gm_dig a n n) (gm_dig b n n) (by rw [gmL_len, gmL_len]) e)) (fun x hx => by
    rw [List.mem_map] at hx
    obtain ⟨a, -, rfl⟩ := hx
    have h2 := digV_bound (gmL a n n) 0
    rw [gmL_len] at h2
    have h3 : 2 ^ gmP n n ≤ 1024 := Nat.pow_le_pow_right (n := 2) (j := 10) (by decide) hg
    omega)
  rwa [List.length_map] at h1
/-- there are tours at each smaller distance -/
theorem tD_levels : ∀ (k : Nat) {z : List Int}, tRe n u z → tD n u z = k → ∀ d, d ≤ k → ∃ y, tRe n u y ∧ tD n u y = d := by
  intro k
  induction k with
  | zero => intro z hz e d hd; exact ⟨z, hz, by omega⟩
  | succ k ih =>
    intro z hz e d hd
    by_cases h : d = k + 1
    · exact ⟨z, hz, by omega⟩
    · obtain ⟨p, hp, -, e2⟩ := tD_pred hz (by omega)
      exact ih hp (by omega) d (by omega)
theorem BfI.far0 (h : BfI n u K Q) (h5 : n ≤ 5) (hq : tRe n u q) (hall : ∀ z, tRe n u z → tD n u z ≤ tD n u q → z ∈ K) : tD n u q ≤ 1024 := by
  have h1 := h.bound h5
  obtain ⟨f, hf⟩ : ∃ f : Nat → List Int, ∀ d, d ≤ tD n u q → tRe n u (f d) ∧ tD n u (f d) = d := by
    refine ⟨fun d => open Classical in if hd : d ≤ tD n u q then Classical.choose (tD_levels _ hq rfl d hd) else [], fun d hd => ?_⟩
    simp only [dif_pos hd]
    exact Classical.choose_spec (tD_levels _ hq rfl d hd)
  have h2 := nodup_sub (l := (List.range (tD n u q + 1)).map f) (m := K) (by
    rw [List.nodup_iff_pairwise_ne, List.pairwise_map]
    refine List.Pairwise.imp_of_mem (fun {a b} ha hb hab e => hab ?_) (List.nodup_iff_pairwise_ne.1 List.nodup_range)
    have e1 := (hf a (by have := List.mem_range.1 ha; omega)).2
    have e2 := (hf b (by have := List.mem_range.1 hb; omega)).2
    rw [← e1, ← e2, e]) (fun x hx => by
    rw [List.mem_map] at hx
    obtain ⟨d, hd, rfl⟩ := hx
    have hd2 : d ≤ tD n u q := by have := List.mem_range.1 hd; omega
    exact hall (f d) (hf d hd2).1 (by rw [(hf d hd2).2]; exact hd2))
  rw [List.length_map, List.length_range] at h2
  omega
theorem BfI.far (h : BfI n u K (q :: Q)) (h5 : n ≤ 5) : tD n u q ≤ 1024 := h.far0 h5 (h.re q (h.qk q (by simp))) fun z hz hd => h.near _ z hz rfl hd
theorem BfI.far1 (h : BfI n u K []) (h5 : n ≤ 5) (hq : tRe n u q) : tD n u q ≤ 1024 := h.far0 h5 hq fun z hz _ => by
  obtain ⟨k, hk⟩ := hz
  exact h.full hk
/-! the way back -/
/-- rows of triangles that lead from xs to ys -/
def tCh (n : Nat) : List Int → List (List Int) → List Int → Prop
  | xs, [], ys => xs = ys
  | xs, r :: rows, ys => ∃ a b c : Nat, r = [(a : Int), (b : Int), (c : Int)] ∧ tgP xs n a b c ∧ tCh n (rv3 xs a b c) rows ys
theorem tCh.snoc : ∀ {rows : List (List Int)} {xs ys : List Int} {a b c : Nat}, tCh n xs rows ys → tgP ys n a b c → tCh n xs (rows ++ [[(a : Int), (b : Int), (c : Int)]]) (rv3 ys a b c)
  | [], _, _, a, b, c, h, h2 => by cases h; exact ⟨a, b, c, rfl, h2, rfl⟩
  | _ :: _, _, _, _, _, _, ⟨a, b, c, e, h1, h2⟩, h3 => ⟨a, b, c, e, h1, tCh.snoc h2 h3⟩
theorem tCh.wk : ∀ {rows : List (List Int)} {xs ys : List Int}, tCh n xs rows ys → tWk n rows.length xs ys
  | [], _, _, h => h
  | _ :: _, _, _, ⟨a, b, c, _, h1, h2⟩ => ⟨_, ⟨a, b, c, h1, rfl⟩, tCh.wk h2⟩
/-- from a tour that is not the last a triangle leads nearer -/
theorem near_ex {c : List Int} (hp : tourP n u) (h : tRe n u c) (h0 : 0 < tD n u c) : ∃ r ∈ triA c n n, ∃ a b d : Nat, r = [(a : Int), (b : Int), (d : Int)] ∧ tgP c n a b d ∧ tD n u (rv3 c a b d) + 1 = tD n u c := by
  obtain ⟨w, hw, ha, e⟩ := tD_pred h h0
  obtain ⟨k, hk⟩ := hw
  have hwt : tourP n w := hk.tour hp
  obtain ⟨a, b, d, ht, rfl⟩ := ha.symm hwt
  have hct : tourP n c := ha.tour hwt
  exact ⟨_, (mem_tri hct).2 ⟨a, b, d, rfl, ht⟩, a, b, d, rfl, ht, e⟩
end
end Go.Proofs.YthoodjjjklbggaaGreatDoor

namespace Go.Proofs.YthoodjjjklbggaaGreatDoor
open Go.RowKit Go.Sort
set_option maxRecDepth 100000
def nI (l : List Nat) : List Int := l.map fun (a : Nat) => (a : Int)
theorem nI_len (l : List Nat) : (nI l).length = l.length := by simp [nI]
theorem nI_getD {l : List Nat} {k : Nat} (h : k < l.length) : (nI l).getD k 0 = ((l.getD k 0 : Nat) : Int) := by simp [nI, h]
theorem nI_snoc (l : List Nat) (b : Nat) : nI (l ++ [b]) = nI l ++ [(b : Int)] := by simp [nI]
def lastN (way : List Nat) : Nat := way.getD (way.length - 1) 0
def cand (xs : List Int) (n : Nat) (way : List Nat) : List Nat := (memN (winsN xs (lastN way)) n).filter fun b => !way.contains b
def dfs (xs : List Int) (n : Nat) (want : List Nat → Bool) : Nat → List Nat → Option (List Nat)
  | 0, way => if want way = true then some way else none
  | m + 1, way => (cand xs n way).findSome? fun b => dfs xs n want m (way ++ [b])
theorem fs_hit {β : Type} {l : List Nat} {F : Nat → Option β} {k : Nat} {y : β} (hk : k < l.length) (h0 : ∀ j, j < k → F (l.getD j 0) = none) (hy : F (l.getD k 0) = some y) : l.findSome? F = some y := by
  have e : l = l.take k ++ l.getD k 0 :: l.drop (k + 1) := by
    rw [getD_nat hk, ← List.drop_eq_getElem_cons hk, List.take_append_drop]
  have h1 : (l.take k).findSome? F = none := by
    rw [List.findSome?_eq_none_iff]
    intro x hx
    obtain ⟨j, hj, rfl⟩ := List.getElem_of_mem hx
    rw [List.length_take] at hj
    have := h0 j (by omega)
    rw [getD_nat (show j < l.length by omega)] at this
    simpa using this
  rw [e, List.findSome?_append, h1, List.findSome?_cons, hy]
  rfl
theorem fs_miss {β : Type} {l : List Nat} {F : Nat → Option β} (h0 : ∀ j, j < l.length → F (l.getD j 0) = none) : l.findSome? F = none := by
  rw [List.findSome?_eq_none_iff]
  intro x hx
  obtain ⟨j, hj, rfl⟩ := List.getElem_of_mem hx
  have := h0 j hj
  rwa [getD_nat hj] at this
theorem dfs_len {xs : List Int} {n : Nat} {want : List Nat → Bool} : ∀ {m : Nat} {way L : List Nat}, dfs xs n want m way = some L → L.length = way.length + m := by
  intro m
  induction m with
  | zero =>
    intro way L h
    rw [dfs] at h
    split at h
    · injection h with h; subst h; rfl
    · cases h
  | succ m ih =>
    intro way L h
    rw [dfs] at h
    obtain ⟨b, -, hb⟩ := List.exists_of_findSome?_eq_some h
    have := ih hb
    rw [List.length_append, List.length_singleton] at this
    omega
def setW (way : List Nat) : Nat := way.foldl (fun s b => s ||| 2 ^ b) 0
theorem setW_snoc (l : List Nat) (b : Nat) : setW (l ++ [b]) = setW l ||| 2 ^ b := by simp [setW, List.foldl_append]
theorem take_snocN' {l : List Nat} {k : Nat} (hk : k < l.length) : l.take (k + 1) = l.take k ++ [l.getD k 0] := by
  rw [List.take_succ_eq_append_getElem hk, getD_nat hk]
theorem testBit_setW (l : List Nat) (j : Nat) : (setW l).testBit j = l.contains j := by
  have : ∀ k, k ≤ l.length → (setW (l.take k)).testBit j = (l.take k).contains j := by
    intro k
    induction k with
    | zero => intro _; simp [setW]
    | succ k ih =>
      intro hk
      rw [take_snocN' (by omega), setW_snoc, Nat.testBit_or, ih (by omega), Nat.testBit_two_pow, Bool.eq_iff_iff]
      simp
      exact ⟨fun h => h.imp id Eq.symm, fun h => h.imp id Eq.symm⟩
  have := this l.length (Nat.le_refl _)
  rwa [List.take_length] at this
theorem setW_lt {l : List Nat} {n : Nat} (h : ∀ x ∈ l, x < n) : setW l < 2 ^ n := by
  apply Nat.lt_pow_two_of_testBit
  intro i hi
  rw [testBit_setW]
  rcases q : l.contains i with _ | _
  · rfl
  · have := h i (by simpa using q); omega
theorem memN_lessW (S n : Nat) (way : List Nat) : memN (less S (setW way)) n = (memN S n).filter fun b => !way.contains b := by
  unfold memN
  rw [List.filter_filter]
  refine List.filter_congr fun x _ => ?_
  rw [testBit_less, testBit_setW, Bool.and_comm]
theorem cand_lt {xs : List Int} {n : Nat} {way : List Nat} {b : Nat} (h : b ∈ cand xs n way) : b < n ∧ (winsN xs (lastN way)).testBit b = true ∧ ¬ b ∈ way := by
  unfold cand at h
  rw [List.mem_filter] at h
  exact ⟨(mem_memN.1 h.1).1, (mem_memN.1 h.1).2, by simpa using h.2⟩
theorem or_shl'' (S a : Nat) (hS : S < 4611686018427387904) (h : a ≤ 61) : bits .or .i64 (S : Int) (wrap64 (2 ^ a)) = ((S ||| 2 ^ a : Nat) : Int) := or_shl S a hS h
set_option maxHeartbeats 1000000 in
theorem isetOf_any (v : Value) (way : List Nat) (w : World) (h : Rd w v (nI way)) (hb : ∀ x ∈ way, x < 8) :
    Calls Tryz.prog 34 #[v] w fun e w' => e = .returned (.int .i64 (setW way : Nat)) ∧ w = w' := by
  obtain ⟨A, c, rfl, hl, hm, hc⟩ := h
  rw [nI_len] at hl hc
  unfold maxLen at hm
  have HC := Lib.hid hc
  have HB := Lib.hid hb
  rw [nI_len]
  generalize hn : way.length = n at *
  have HN := Lib.hid hn
  clear hc hb hn
  go_enter Tryz.func34, Tryz.ntmps34
  go_wp2
  go_loop [3, 8] (fun s i => ∃ k : Nat, k ≤ n ∧ i = .int .i64 k ∧ s = .int .i64 (setW (way.take k) : Nat)) (fun _ i => n - (intOf i).toNat)
  case atStart => exact ⟨0, by omega, rfl, by simp [setW]⟩
  case round =>
    obtain ⟨k, hk, rfl, rfl⟩ := hrel
    by_cases hlt : k < n
    · obtain ⟨g, off, rfl, hg, hx⟩ := HC.out (by omega)
      have hxk := hx k hlt
      have hkl : k < way.length := by rw [HN.out]; exact hlt
      rw [nI_getD hkl] at hxk
      have hlt8 : way.getD k 0 < 8 := HB.out _ (by rw [getD_nat hkl]; exact List.getElem_mem _)
      have hs := setW_lt (l := way.take k) (n := 8) fun x hx => HB.out x (List.mem_of_mem_take hx)
      have HS : Hid (setW (way.take (k + 1)) = setW (way.take k) ||| 2 ^ way.getD k 0) := by unfold Hid; rw [take_snocN' hkl, setW_snoc]
      clear hx
      generalize way.getD k 0 = b at *
      generalize setW (way.take k) = S at *
      have hor := or_shl S b (by omega) (by omega)
      go_wp2
      go_round
      case rel => exact ⟨k + 1, by omega, by go_num, by rw [HS.out]⟩
      case measure => simp [intOf]; omega
    · obtain rfl : n = k := by omega
      have HE : Hid (way.take n = way) := List.take_of_length_le (by rw [HN.out]; exact Nat.le_refl _)
      rw [HE.out]
      go_wp2
      go_ret
      exact ⟨rfl, rfl⟩
theorem own_prefix {w : World} {base g n c : Nat} {xs : List Int} {y : Int} (hn : xs.length = n) (h : Own w base (.slice (some ⟨g, 0, none⟩) (n + 1) c) (xs ++ [y])) : Own w base (.slice (some ⟨g, 0, none⟩) n c) xs := by
  subst hn
  refine ⟨by simp, .inr ?_⟩
  rcases h.2 with ⟨e, -⟩ | ⟨g', cap, cur, e, hb, hh, hle, hm, hs, ht⟩
  · cases e
  · injection e with e1 e2 e3
    injection e1 with e1
    injection e1 with e1 _ _
    subst e1 e3
    refine ⟨g, c, cur, rfl, hb, hh, by simp at hle; omega, hm, hs, ?_⟩
    have h1 := congrArg (List.take xs.length) ht
    rw [List.take_take] at h1
    simp at h1
    simpa using h1
theorem run_append1k (w : World) (ty : TypeId) (base : Nat) (v : Value) (xs : List Int) (y : Int) (gx : Nat) (hown : Own w base v xs) (hc : w.cell? ⟨gx, 0, none⟩ = some (.int .i64 y)) (hlen : xs.length ≤ 1099511627776) (hbase : base ≤ w.heap.size) :
    ∃ g c w', (Builtin.append_ #[23, 23] ty #[v, .slice (some ⟨gx, 0, none⟩) 1 1]).run Tryz.prog w = .ok (.slice (some ⟨g, 0, none⟩) (xs.length + 1) c) w' ∧
      Own w' base (.slice (some ⟨g, 0, none⟩) (xs.length + 1) c) (xs ++ [y]) ∧ Own w' base v xs ∧ w.grownBy w' v.ownBlock ∧ (v = .slice (some ⟨g, 0, none⟩) xs.length c ∨ g = w.heap.size) := by
  obtain ⟨i0, hi, hz0, hz1, hz2⟩ := info_parts i64_info
  have hnews : ∀ j u, [Value.int .i64 y][j]? = some u → w.cell? ((⟨gx, 0, none⟩ : Addr).add j) = some u := by
    intro j u hj
    match j, hj with
    | 0, hj => simp at hj; subst hj; simpa [Addr.add] using hc
  have h1 : ∀ u ∈ [Value.int .i64 y], u.oneCell' = true := by intro u hu; simp at hu; subst hu; rfl
  obtain ⟨v', w', hr, h2, h3, -, h5⟩ := run_append_own_at (P := Tryz.prog) w base 23 ty 3 i0 (.int .i64 0) 1 8 Tryz.underlying23 hi hz0 hz1 hz2 rfl (by decide) v xs.length (xs.map (Value.int .i64)) hown ⟨gx, 0, none⟩ 1 1 [.int .i64 y] rfl hnews h1 (by unfold maxLen; omega) (by omega) hbase
  have h2' : Own w' base v' (xs ++ [y]) := by unfold Own; rw [List.length_append, List.map_append]; exact h2
  obtain ⟨A, c', e, -, -, hA⟩ := h2'.form
  obtain ⟨g', rfl, -, -⟩ := hA (by simp)
  rw [List.length_append, List.length_singleton] at e
  subst e
  rcases hown.2 with ⟨rfl, h0⟩ | ⟨g, cap, cur, rfl, hbg, hg, hnc, hcm, hcs, htake⟩
  · refine ⟨g', c', w', hr, h2', ?_, h3, .inr ?_⟩
    · rw [show xs = [] from List.eq_nil_of_length_eq_zero h0]; exact Own.nil_ _ _
    · rcases h5 with h | h
      · simp [Value.ownBlock] at h
      · simpa [Value.ownBlock] using h
  · by_cases hroom : xs.length + 1 ≤ cap
    · have hr' := run_append_room (P := Tryz.prog) w 23 ty 3 i0 Tryz.underlying23 hi g xs.length cap cur hg ⟨gx, 0, none⟩ 1 1 [.int .i64 y] (by rw [hz1]; rfl) hnews h1 hroom (by rw [hz1]; simp; omega)
      have e := hr.symm.trans hr'
      injection e with e1 e2
      injection e1 with e1 e3 e4
      injection e1 with e1
      injection e1 with e1 _ _
      subst e1 e4
      exact ⟨g', c', w', hr, h2', own_prefix rfl h2', h3, .inl rfl⟩
    · have hr' := run_append_grow (P := Tryz.prog) w 23 ty 3 i0 (.int .i64 0) Tryz.underlying23 hi hz0 ⟨g, 0, none⟩ xs.length cap (xs.map (Value.int .i64)) (by rw [hz1]; simp) (hown.cells (g := g) rfl) ⟨gx, 0, none⟩ 1 1 [.int .i64 y] (by rw [hz1]; rfl) hnews (by omega) (by omega) (growslice_fits (by omega) (by rw [hz2]; omega))
      have e := hr.symm.trans hr'
      injection e with e1 e2
      injection e1 with e1 e3 e4
      injection e1 with e1
      injection e1 with e1 _ _
      subst e1 e2
      exact ⟨_, c', _, hr, h2', World.ownsRow.alloc (World.ownsRow.drew hown) _, h3, .inr rfl⟩
theorem step_append1k {ops : Array Oper} {o : Oper} {a : Act} {K : Act → World → Prop} {Q : Exit → Act → World → Prop} {E : Prop} (w : World) (hgd : o.guard = none) (s x : Operand)
    (ho : o.op = .call { callee := .builtin .append, args := #[s, x], argTypes := #[23, 23] })
    (base : Nat) (v : Value) (xs : List Int) (n : Nat) (hn : xs.length = n) (y : Int) (gx : Nat) (hs : a.eval s = v) (hown : Own w base v xs) (hx : a.eval x = .slice (some ⟨gx, 0, none⟩) 1 1) (hc : w.cell? ⟨gx, 0, none⟩ = some (.int .i64 y))
    (hlen : n ≤ 1099511627776) (hbase : base ≤ w.heap.size)
    (h : ∀ g c w', Own w' base (.slice (some ⟨g, 0, none⟩) (n + 1) c) (xs ++ [y]) → Own w' base v xs → w.grownBy w' v.ownBlock → (v = .slice (some ⟨g, 0, none⟩) n c ∨ g = w.heap.size) → K (a.put o.dst (.slice (some ⟨g, 0, none⟩) (n + 1) c)) w') :
    if Region.wanted o (yielded ops a.tmps) = true then Oper.wp Tryz.prog o a w K Q else E := by
  subst hn
  have hw : Region.wanted o (yielded ops a.tmps) = true := by simp [Region.wanted, hgd]
  rw [if_pos hw]
  obtain ⟨g, c, w', hr, h1, h2, h3, h4⟩ := run_append1k w o.type base v xs y gx hown hc hlen hbase
  unfold Oper.wp execOp
  simp only [ho, resolve, invoke, builtin, Sem.run_bind, Sem.run_pure, Result.andThen_ok, List.map_toArray, List.map_cons, List.map_nil, hs, hx, hr]
  exact h g c w' h1 h2 h3 h4
end Go.Proofs.YthoodjjjklbggaaGreatDoor

namespace Go.Proofs.YthoodjjjklbggaaGreatDoor
open Go.RowKit Go.Sort
set_option maxRecDepth 100000
theorem tour_info : (Tryz.prog.info? 25).map (fun i => (i.zero, i.size, i.bytes)) = some (some (.agg #[.int .i64 0, .slice none 0 0]), 2, 32) := by kernel_rfl
/-- a slice of tours -/
def QT (w : World) (G : Nat → Prop) (v : Value) (n : Nat) (L : List (List Int)) : Prop :=
  ∃ g off cap, v = .slice (some ⟨g, off, none⟩) L.length cap ∧ L.length ≤ cap ∧ cap ≤ maxLen ∧ G g ∧ g < w.heap.size ∧
    (∀ j, j < 2 * cap → (w.cell? ⟨g, off + j, none⟩).isSome = true ∧ w.frozen? ⟨g, off + j, none⟩ = false) ∧
    ∀ k, k < L.length → ∃ A c, w.cell? ⟨g, off + 2 * k, none⟩ = some (.int .i64 n) ∧ w.cell? ⟨g, off + (2 * k + 1), none⟩ = some (.slice A n c) ∧ Rd w (.slice A n c) (L.getD k []) ∧ ∀ a, A = some a → a.block ≠ g ∧ a.block < w.heap.size
theorem QT.below {w w' : World} {G : Nat → Prop} {v : Value} {n : Nat} {L : List (List Int)} (h : QT w G v n L) (hb : Below w.heap.size w w') : QT w' G v n L := by
  obtain ⟨g, off, cap, e, h1, h2, h3, h4, h5, h6⟩ := h
  refine ⟨g, off, cap, e, h1, h2, h3, Nat.lt_of_lt_of_le h4 hb.size, fun j hj => ?_, fun k hk => ?_⟩
  · rw [hb.cell (show (⟨g, off + j, none⟩ : Addr).block < _ from h4), hb.frozen (show (⟨g, off + j, none⟩ : Addr).block < _ from h4)]
    exact h5 j hj
  · obtain ⟨A, c, a1, a2, a3, a4⟩ := h6 k hk
    exact ⟨A, c, (hb.cell h4).trans a1, (hb.cell h4).trans a2, a3.below hb, fun a ha => ⟨(a4 a ha).1, Nat.lt_of_lt_of_le (a4 a ha).2 hb.size⟩⟩
/-- another block is written -/
theorem Rd.grown {w w' : World} {row : Option Nat} {v : Value} {xs : List Int} (h : Rd w v xs) (hg : w.grownBy w' row) (hne : ∀ A n c, v = .slice (some A) n c → some A.block ≠ row) : Rd w' v xs := by
  obtain ⟨A, c, rfl, hl, hc, hb⟩ := h
  refine ⟨A, c, rfl, hl, hc, fun h0 => ?_⟩
  obtain ⟨b, off, rfl, hlt, hcell⟩ := hb h0
  have hn := hne _ _ _ rfl
  exact ⟨b, off, rfl, Nat.lt_of_lt_of_le hlt hg.size, fun k hk' => by rw [World.cell?_of_block (w := w) (hg.block b hlt hn)]; exact hcell k hk'⟩
theorem QT.grown {w w' : World} {row : Option Nat} {G : Nat → Prop} {v : Value} {n : Nat} {L : List (List Int)} (h : QT w G v n L) (hg : w.grownBy w' row) (hr : ∀ r, row = some r → ¬ G r) (hd : ∀ k, k < L.length → ∀ A c, Rd w (.slice A n c) (L.getD k []) → Rd w' (.slice A n c) (L.getD k [])) : QT w' G v n L := by
  obtain ⟨g, off, cap, e, h1, h2, h3, h4, h5, h6⟩ := h
  have hne : some g ≠ row := fun e => hr g e.symm h3
  have hc : ∀ o, w'.cell? ⟨g, o, none⟩ = w.cell? ⟨g, o, none⟩ := fun o => World.cell?_of_block (w := w) (hg.block g h4 hne)
  have hf : ∀ o, w'.frozen? ⟨g, o, none⟩ = w.frozen? ⟨g, o, none⟩ := fun o => World.frozen?_of_block (w := w) (hg.block g h4 hne)
  refine ⟨g, off, cap, e, h1, h2, h3, Nat.lt_of_lt_of_le h4 hg.size, fun j hj => by rw [hc, hf]; exact h5 j hj, fun k hk => ?_⟩
  obtain ⟨A, c, a1, a2, a3, a4⟩ := h6 k hk
  exact ⟨A, c, (hc _).trans a1, (hc _).trans a2, hd k hk A c a3, fun a ha => ⟨(a4 a ha).1, Nat.lt_of_lt_of_le (a4 a ha).2 hg.size⟩⟩
/-- a queue of one tour, laid -/
theorem QT.one {w : World} {G : Nat → Prop} {n : Nat} {x : List Int} {A : Option Addr} {c : Nat} (hB : G w.heap.size) (h : Rd w (.slice A n c) x) (hA : ∀ a, A = some a → a.block < w.heap.size) (T : TypeId) : QT (w.alloc (.cells #[.int .i64 n, .slice A n c] T)) G (.slice (some ⟨w.heap.size, 0, none⟩) 1 1) n [x] := by
  refine ⟨w.heap.size, 0, 1, rfl, by simp, by unfold maxLen; omega, hB, by simp, fun j hj => ?_, fun k hk => ?_⟩
  · have : j = 0 ∨ j = 1 := by omega
    rcases this with rfl | rfl <;> simp
  · simp at hk
    subst hk
    exact ⟨A, c, by simp, by simp, by simpa using h.below (below_alloc1 w _), fun a ha => by have := hA a ha; simp; omega⟩
/-- the first -/
theorem QT.head {w : World} {G : Nat → Prop} {v : Value} {n : Nat} {x : List Int} {L : List (List Int)} (h : QT w G v n (x :: L)) : ∃ g off cap A c, v = .slice (some ⟨g, off, none⟩) (L.length + 1) cap ∧ L.length + 1 ≤ cap ∧ cap ≤ maxLen ∧ G g ∧ g < w.heap.size ∧
    w.cell? ⟨g, off, none⟩ = some (.int .i64 n) ∧ w.cell? ⟨g, off + 1, none⟩ = some (.slice A n c) ∧ Rd w (.slice A n c) x := by
  obtain ⟨g, off, cap, e, h1, h2, h3, h4, h5, h6⟩ := h
  obtain ⟨A, c, a1, a2, a3, a4⟩ := h6 0 (by simp)
  exact ⟨g, off, cap, A, c, e, h1, h2, h3, h4, a1, a2, a3⟩
/-- the first is cut off -/
theorem QT.tail {w : World} {G : Nat → Prop} {g off cap : Nat} {n : Nat} {x : List Int} {L : List (List Int)} (h : QT w G (.slice (some ⟨g, off, none⟩) (L.length + 1) cap) n (x :: L)) (hc : cap ≠ 1) : QT w G (.slice (some ⟨g, off + 2, none⟩) L.length (cap - 1)) n L := by
  obtain ⟨g', off', cap', e, h1, h2, h3, h4, h5, h6⟩ := h
  injection e with e1 e2 e3
  injection e1 with e1
  injection e1 with e1 e4 _
  subst e1 e3 e4
  simp only [List.length_cons] at h1
  refine ⟨g, off + 2, cap - 1, rfl, by omega, by omega, h3, h4, fun j hj => ?_, fun k hk => ?_⟩
  · have := h5 (2 + j) (by omega)
    rwa [show off + (2 + j) = off + 2 + j by omega] at this
  · obtain ⟨A, c, a1, a2, a3, a4⟩ := h6 (k + 1) (by simp; omega)
    exact ⟨A, c, by rw [← a1]; congr 2; omega, by rw [← a2]; congr 2; omega, by simpa using a3, a4⟩
theorem QT.tail1 {w : World} {G : Nat → Prop} {g off : Nat} {n : Nat} {x : List Int} {L : List (List Int)} (h : QT w G (.slice (some ⟨g, off, none⟩) (L.length + 1) 1) n (x :: L)) (o : Nat) : QT w G (.slice (some ⟨g, o, none⟩) L.length 0) n L := by
  obtain ⟨g', off', cap', e, h1, h2, h3, h4, h5, h6⟩ := h
  injection e with e1 e2 e3
  injection e1 with e1
  injection e1 with e1 e4 _
  subst e1 e3 e4
  simp only [List.length_cons] at h1
  exact ⟨g, o, 0, rfl, by omega, by omega, h3, h4, fun j hj => by omega, fun k hk => by omega⟩
theorem QT.imp {w : World} {G G' : Nat → Prop} {v : Value} {n : Nat} {L : List (List Int)} (h : QT w G v n L) (hi : ∀ g, G g → g < w.heap.size → G' g) : QT w G' v n L := by
  obtain ⟨g, off, cap, e, h1, h2, h3, h4, h5⟩ := h
  exact ⟨g, off, cap, e, h1, h2, hi g h3 h4, h4, h5⟩
/-- rows in blocks that stay -/
theorem ownsRow_snap {w w' : World} {base size n : Nat} {e : TypeId} {v : Value} {xs : List Value} (h : w.ownsRow base e size v n xs) (hk : ∀ i, base ≤ i → i < w.heap.size → w'.heap[i]? = w.heap[i]?) : w'.ownsRow base e size v n xs := by
  refine ⟨h.1, ?_⟩
  rcases h.2 with h0 | ⟨g, cap, cur, hv, hg, hh, r⟩
  · exact .inl h0
  · exact .inr ⟨g, cap, cur, hv, hg, by rw [hk g hg (Array.getElem?_eq_some_iff.1 hh).1]; exact hh, r⟩
theorem OwnRows.snap {w w' : World} {base : Nat} {v : Value} {rows : List (List Int)} (h : OwnRows w base v rows) (hk : ∀ i, base ≤ i → i < w.heap.size → w'.heap[i]? = w.heap[i]?) : OwnRows w' base v rows := by
  obtain ⟨us, hl, ho, hr, hd⟩ := h
  exact ⟨us, hl, ownsRow_snap ho hk, fun k hk' => ownsRow_snap (hr k hk') hk, hd⟩
/-- one more tour -/
theorem run_appendQ (w : World) (ty : TypeId) (G : Nat → Prop) (v : Value) (n : Nat) (L : List (List Int)) (y : List Int) (gx : Nat) (A : Option Addr) (c : Nat) (h : QT w G v n L) (c0 : w.cell? ⟨gx, 0, none⟩ = some (.int .i64 n)) (c1 : w.cell? ⟨gx, 1, none⟩ = some (.slice A n c))
    (hr : Rd w (.slice A n c) y) (hA : ∀ a, A = some a → a.block < w.heap.size ∧ ∀ g o k p, v = .slice (some ⟨g, o, none⟩) k p → a.block ≠ g) (hlen : L.length ≤ 1048576) (hB : G w.heap.size) :
    ∃ v' w', (Builtin.append_ #[65, 65] ty #[v, .slice (some ⟨gx, 0, none⟩) 1 1]).run Tryz.prog w = .ok v' w' ∧ QT w' G v' n (L ++ [y]) ∧ w.grownBy w' v.ownBlock ∧ ∀ r, v.ownBlock = some r → G r := by
  obtain ⟨i0, hi, hz0, hz1, hz2⟩ := info_parts tour_info
  obtain ⟨g, off, cap, rfl, h1, h2, h3, h4, h5, h6⟩ := h
  have hA1 : ∀ a, A = some a → a.block ≠ g := fun a ha => (hA a ha).2 _ _ _ _ rfl
  have hsrc : Src Tryz.prog i0.size 65 (.slice (some ⟨gx, 0, none⟩) 1 1) 1 [.int .i64 n, .slice A n c] w := Src.ofSlice w Tryz.underlying65 ⟨gx, 0, none⟩ 1 1 _ (by rw [hz1]; rfl) (fun j u hj => by
    match j, hj with
    | 0, hj => simp at hj; subst hj; simpa [Addr.add] using c0
    | 1, hj => simp at hj; subst hj; simpa [Addr.add] using c1) (fun u hu => by
    simp at hu
    rcases hu with rfl | rfl <;> rfl)
  by_cases hroom : L.length + 1 ≤ cap
  · have hrun := run_append_room_src (P := Tryz.prog) w 65 65 ty 25 i0 Tryz.underlying65 hi g off L.length cap _ 1 _ hsrc hroom (fun j hj => by
      have := (h5 (L.length * 2 + j) (by simp at hj; omega)).1
      rw [hz1]; rwa [show off + L.length * 2 + j = off + (L.length * 2 + j) by omega]) (fun j hj => by
      have := (h5 (L.length * 2 + j) (by simp at hj; omega)).2
      rw [hz1]; rwa [show off + L.length * 2 + j = off + (L.length * 2 + j) by omega])
    rw [hz1] at hrun
    have hgr : w.grownBy (w.setCells g (off + L.length * 2) [.int .i64 n, .slice A n c]) (some g) := (setCell_grown w ⟨g, off + L.length * 2, none⟩ (.int .i64 n)).trans (setCell_grown _ ⟨g, off + L.length * 2 + 1, none⟩ (.slice A n c))
    refine ⟨_, _, hrun, ⟨g, off, cap, by simp, by simpa using hroom, h2, h3, by simpa [World.setCells] using h4, fun j hj => ?_, fun k hk => ?_⟩, hgr, fun r hr' => by simp [Value.ownBlock] at hr'; subst hr'; exact h3⟩
    · exact ⟨World.isSome_setCells g _ _ _ _ (h5 j hj).1, by rw [World.frozen?_setCells]; exact (h5 j hj).2⟩
    · rw [List.length_append, List.length_singleton] at hk
      by_cases hk2 : k < L.length
      · obtain ⟨A', c', a1, a2, a3, a4⟩ := h6 k hk2
        refine ⟨A', c', ?_, ?_, ?_, fun a ha => ⟨(a4 a ha).1, by have := (a4 a ha).2; simpa [World.setCells] using this⟩⟩
        · rw [World.cell?_setCells_out g _ _ _ _ (fun _ _ => by left; show off + 2 * k < off + L.length * 2; omega)]; exact a1
        · rw [World.cell?_setCells_out g _ _ _ _ (fun _ _ => by left; show off + (2 * k + 1) < off + L.length * 2; omega)]; exact a2
        · rw [show (L ++ [y]).getD k [] = L.getD k [] by simp [List.getD_eq_getElem?_getD, List.getElem?_append_left hk2]]
          exact a3.grown hgr (fun A2 n2 c2 e => by
            injection e with e _ _
            intro e2
            injection e2 with e2
            exact (a4 A2 e).1 e2)
      · obtain rfl : k = L.length := by omega
        refine ⟨A, c, ?_, ?_, ?_, fun a ha => ⟨hA1 a ha, by have := (hA a ha).1; simpa [World.setCells] using this⟩⟩
        · have := World.cell?_setCells_in g [.int .i64 n, .slice A n c] (off + L.length * 2) w (fun j hj => by
            have := (h5 (L.length * 2 + j) (by simp at hj; omega)).1
            rwa [show off + L.length * 2 + j = off + (L.length * 2 + j) by omega]) 0 (by simp)
          rw [show off + 2 * L.length = off + L.length * 2 + 0 by omega]; exact this
        · have := World.cell?_setCells_in g [.int .i64 n, .slice A n c] (off + L.length * 2) w (fun j hj => by
            have := (h5 (L.length * 2 + j) (by simp at hj; omega)).1
            rwa [show off + L.length * 2 + j = off + (L.length * 2 + j) by omega]) 1 (by simp)
          rw [show off + (2 * L.length + 1) = off + L.length * 2 + 1 by omega]; exact this
        · rw [show (L ++ [y]).getD L.length [] = y by simp [List.getD_eq_getElem?_getD]]
          exact hr.grown hgr (fun A2 n2 c2 e => by
            injection e with e _ _
            intro e2
            injection e2 with e2
            exact hA1 A2 e e2)
  · obtain ⟨olds, hol, hoc⟩ : ∃ olds : List Value, olds.length = 2 * L.length ∧ ∀ j, j < 2 * L.length → ∃ u, olds[j]? = some u ∧ w.cell? ⟨g, off + j, none⟩ = some u := by
      refine ⟨(List.range (2 * L.length)).map fun j => (w.cell? ⟨g, off + j, none⟩).getD default, by simp, fun j hj => ?_⟩
      obtain ⟨u, hu⟩ := Option.isSome_iff_exists.1 (h5 j (by omega)).1
      exact ⟨u, by simp [hj, hu], hu⟩
    have hfc : (Builtin.firstCells i0.size L.length (.slice (some ⟨g, off, none⟩) L.length cap)).run Tryz.prog w.drew = .ok olds.toArray w.drew := run_firstCells_some w.drew i0.size L.length ⟨g, off, none⟩ L.length cap olds (by rw [hol, hz1]; omega) (fun j u hj => by
      have hj2 : j < 2 * L.length := by
        rw [← hol]
        exact (List.getElem?_eq_some_iff.1 hj).1
      obtain ⟨u', e1, e2⟩ := hoc j hj2
      rw [hj] at e1
      injection e1 with e1
      subst e1
      rw [Addr.add_lit]
      exact e2)
    have hrun := run_append_grow_src (P := Tryz.prog) w 65 65 ty 25 i0 (.agg #[.int .i64 0, .slice none 0 0]) Tryz.underlying65 hi hz0 (some ⟨g, off, none⟩) L.length cap olds hfc _ 1 _ hsrc (by omega) (by omega) (growslice_fits (by omega) (by rw [hz2]; omega))
    have hge := grownCap_ge w (L.length + 1) cap 25
    have hcm := grownCap_le_maxLen w (L.length + 1) cap 25 (by unfold maxLen; omega)
    generalize grownCap w (L.length + 1) cap 25 = C at *
    obtain ⟨Z, hZ⟩ : ∃ Z : Array Value, Z = (olds ++ [Value.int .i64 n, Value.slice A n c]).toArray ++ Builtin.zeroCells (Value.agg #[.int .i64 0, .slice none 0 0]).cells (C - (L.length + 1)) := ⟨_, rfl⟩
    rw [← hZ] at hrun
    have hzs : Z.size = 2 * C := by
      rw [hZ, Array.size_append, List.size_toArray, List.length_append, hol]
      rw [show (Builtin.zeroCells (Value.agg #[.int .i64 0, .slice none 0 0]).cells (C - (L.length + 1))).size = 2 * (C - (L.length + 1)) by simp [Builtin.zeroCells, Value.cells]; omega]
      simp only [List.length_cons, List.length_nil]
      omega
    have hb1 : Below w.heap.size w (w.drew.alloc (.cells Z 25)) := ((Below.refl _ _).drew).alloc (Nat.le_refl _) _
    have hgr : w.grownBy (w.drew.alloc (.cells Z 25)) (Value.slice (some ⟨g, off, none⟩) L.length cap).ownBlock := ⟨rfl, rfl, rfl, hb1.size, fun i hi' _ => hb1.block i hi'⟩
    have hblk : (w.drew.alloc (.cells Z 25)).heap[w.heap.size]? = some (.cells Z 25) := (Go.MapKept.heap_alloc w.drew _).1
    have hcell : ∀ j, (w.drew.alloc (.cells Z 25)).cell? ⟨w.heap.size, j, none⟩ = Z[j]? := fun j => by
      simp only [World.cell?, hblk]; rfl
    refine ⟨_, _, hrun, ⟨w.heap.size, 0, C, by simp, by simpa using hge, hcm, hB, by simp, fun j hj => ?_, fun k hk => ?_⟩, hgr, fun r hr' => by simp [Value.ownBlock] at hr'; subst hr'; exact h3⟩
    · rw [Nat.zero_add, hcell, Array.getElem?_eq_getElem (show j < Z.size by omega)]
      refine ⟨rfl, ?_⟩
      simp only [World.frozen?, hblk]; simp
    · rw [List.length_append, List.length_singleton] at hk
      rw [Nat.zero_add, Nat.zero_add, hcell, hcell]
      by_cases hk2 : k < L.length
      · obtain ⟨A', c', a1, a2, a3, a4⟩ := h6 k hk2
        obtain ⟨u1, e1, f1⟩ := hoc (2 * k) (by omega)
        obtain ⟨u2, e2, f2⟩ := hoc (2 * k + 1) (by omega)
        rw [a1] at f1
        rw [a2] at f2
        injection f1 with f1
        injection f2 with f2
        subst f1 f2
        refine ⟨A', c', ?_, ?_, ?_, fun a ha => ?_⟩
        · rw [hZ, Array.getElem?_append_left (by simp; omega), List.getElem?_toArray, List.getElem?_append_left (by omega)]; exact e1
        · rw [hZ, Array.getElem?_append_left (by simp; omega), List.getElem?_toArray, List.getElem?_append_left (by omega)]; exact e2
        · rw [show (L ++ [y]).getD k [] = L.getD k [] by simp [List.getD_eq_getElem?_getD, List.getElem?_append_left hk2]]
          exact a3.below hb1
        · have := (a4 a ha).2
          simp; omega
      · obtain rfl : k = L.length := by omega
        refine ⟨A, c, ?_, ?_, ?_, fun a ha => by have := (hA a ha).1; simp; omega⟩
        · rw [hZ, Array.getElem?_append_left (by simp; omega), List.getElem?_toArray, List.getElem?_append_right (by omega), hol, Nat.sub_self]; rfl
        · rw [hZ, Array.getElem?_append_left (by simp; omega), List.getElem?_toArray, List.getElem?_append_right (by omega), hol, show 2 * L.length + 1 - 2 * L.length = 1 by omega]; rfl
        · rw [show (L ++ [y]).getD L.length [] = y by simp [List.getD_eq_getElem?_getD]]
          exact hr.below hb1
theorem wp_appendQ {ops : Array Oper} {rest : List Oper} {o : Oper} {a : Act} {Q : Exit → Act → World → Prop} (w : World) (hgd : o.guard = none) (s x : Operand)
    (ho : o.op = .call { callee := .builtin .append, args := #[s, x], argTypes := #[65, 65] })
    (G : Nat → Prop) (v : Value) (n : Nat) (L : List (List Int)) (y : List Int) (A : Option Addr) (c : Nat) (hs : a.eval s = v) (h : QT w G v n L)
    (hr : Rd w (.slice A n c) y) (hA : ∀ a, A = some a → a.block < w.heap.size ∧ ∀ g o k p, v = .slice (some ⟨g, o, none⟩) k p → a.block ≠ g) (hx : a.eval x = .slice (some ⟨w.heap.size, 0, none⟩) 1 1) (hlen : L.length ≤ 1048576) (hB : G (w.heap.size + 1))
    (hk : ∀ v' w', QT w' G v' n (L ++ [y]) → (w.alloc (.cells #[.int .i64 n, .slice A n c] 25)).grownBy w' v.ownBlock → (∀ r, v.ownBlock = some r → G r) → wpList Tryz.prog ops Q rest (a.put o.dst v') w') :
    wpList Tryz.prog ops Q (o :: rest) a (w.alloc (.cells #[.int .i64 n, .slice A n c] 25)) := by
  refine wpList_plain hgd fun K' hK' => ?_
  have hb := below_alloc1 w (.cells #[.int .i64 n, .slice A n c] 25)
  obtain ⟨v', w', hrun, h1, h2, h3⟩ := run_appendQ (w.alloc (.cells #[.int .i64 n, .slice A n c] 25)) o.type G v n L y w.heap.size A c (h.below hb) (by simp) (by simp) (hr.below hb) (fun a ha => ⟨by have := (hA a ha).1; simp; omega, (hA a ha).2⟩) hlen (by simpa using hB)
  unfold Oper.wp execOp
  simp only [ho, resolve, invoke, builtin, Sem.run_bind, Sem.run_pure, Result.andThen_ok, List.map_toArray, List.map_cons, List.map_nil, hs, hx, hrun]
  exact hK' _ _ (hk v' w' h1 h2 h3)
end Go.Proofs.YthoodjjjklbggaaGreatDoor

