/- Texts put together: Cover, FlipG, FlipT, FlN, Trn. -/
import Derived.Test.YthoodjjjklbggaaDoorMRotational03
import Derived.Test.YthoodjjjklbggaaDoorMRotational06
import Derived.Test.YthoodjjjklbggaaDoorMRotational04
import Derived.Test.YthoodjjjklbggaaDoorMRotational05
import Derived.Test.YthoodjjjklbggaaDoorMRotational02
namespace Go.Proofs.YthoodjjjklbggaaDoor
open Go.RowKit Go.Sort

noncomputable def coverB (s : Int) (xs : List Int) (a b : Int) : Bool := beatB s xs a b && (bits BinOp.andNot IntKind.i64 (xs.getD b.toNat 0) (xs.getD a.toNat 0) == 0)

end Go.Proofs.YthoodjjjklbggaaDoor

namespace Go.Proofs.YthoodjjjklbggaaDoor
open Go.RowKit Go.Sort
set_option maxRecDepth 100000

noncomputable def flOk (s : Int) (xs : List Int) (a b : Int) : Bool := tourB s xs && (inB a 0 (s - 1) && (inB b 0 (s - 1) && !(a == b)))
noncomputable def flS (s : Int) (xs : List Int) (a b : Int) : Int := if flOk s xs a b = true then s else 0
noncomputable def flL (s : Int) (xs : List Int) (a b : Int) : List Int := if flOk s xs a b = true then flipL xs a.toNat b.toNat else []
theorem fl_no {s : Int} {xs : List Int} {a b : Int} (h : flOk s xs a b = false) : flS s xs a b = 0 ∧ flL s xs a b = [] := by simp [flS, flL, h]
theorem fl_yes {s : Int} {xs : List Int} {a b : Int} (h : flOk s xs a b = true) : flS s xs a b = s ∧ flL s xs a b = flipL xs a.toNat b.toNat := by simp [flS, flL, h]
theorem flL_len (s : Int) (xs : List Int) (a b : Int) : (flL s xs a b).length ≤ 8 := by
  unfold flL
  split
  · rename_i h
    unfold flOk at h
    rw [Bool.and_eq_true] at h
    have := (tourB_true.1 h.1).1
    have := (tourB_true.1 h.1).2.1
    rw [flipL_len]; omega
  · simp
end Go.Proofs.YthoodjjjklbggaaDoor

namespace Go.Proofs.YthoodjjjklbggaaDoor
open Go.RowKit Go.Sort
set_option maxRecDepth 100000
theorem xor_nat {S b : Nat} (hS : S < 256) (hb : b < 8) : xorI (S : Int) b = ((S ^^^ 2 ^ b : Nat) : Int) := by
  unfold xorI
  rw [shl_nat b (by omega)]
  have : 2 ^ b < 256 := pow_lt8 hb
  exact i64_xor_nat S (2 ^ b) (by omega) (by omega)
theorem flip_at {s : Int} {xs : List Int} (hp : tourP s xs) {a b : Nat} (ha : a < xs.length) (hb : b < xs.length) (hab : a ≠ b) (x : Nat) (hx : x < xs.length) :
    ∃ S : Nat, (flipL xs a b).getD x 0 = (S : Int) ∧ S < 2 ^ xs.length ∧ ∀ y, S.testBit y = ((bt xs x y) ^^ ((x == a && y == b) || (x == b && y == a))) := by
  have h8 : xs.length ≤ 8 := by have h1 := hp.1; have h2 := hp.2.1; omega
  have hw := fun z (hz : z < xs.length) => tour_wins hp hz
  have hsn : s.toNat = xs.length := by have := hp.2.1; omega
  have pw : ∀ c, c < xs.length → 2 ^ c < 2 ^ xs.length := fun c hc => Nat.pow_lt_pow_right (by decide) hc
  have e1 : (xs.set a (xorI (xs.getD a 0) b)).getD b 0 = xs.getD b 0 := getD_set_other _ hab
  unfold flipL
  rw [e1]
  have wa := hw a ha
  have wb := hw b hb
  rw [hsn] at wa wb
  by_cases h1 : x = b
  · subst h1
    rw [getD_set_same _ (by simp [hx]), wb.1, xor_nat wb.2.2 (by omega)]
    refine ⟨_, rfl, Nat.xor_lt_two_pow wb.2.1 (pw a ha), fun y => ?_⟩
    rw [Nat.testBit_xor, Nat.testBit_two_pow]
    have q : (x == a) = false := by simp; omega
    by_cases e : a = y
    · subst e; simp [q, bt]
    · have : (y == a) = false := by simp; omega
      simp [q, bt, e, this]
  · rw [getD_set_other _ (Ne.symm h1)]
    by_cases h2 : x = a
    · subst h2
      rw [getD_set_same _ hx, wa.1, xor_nat wa.2.2 (by omega)]
      refine ⟨_, rfl, Nat.xor_lt_two_pow wa.2.1 (pw b hb), fun y => ?_⟩
      rw [Nat.testBit_xor, Nat.testBit_two_pow]
      have q : (x == b) = false := by simp; omega
      by_cases e : b = y
      · subst e; simp [q, bt]
      · have : (y == b) = false := by simp; omega
        simp [q, bt, e, this]
    · rw [getD_set_other _ (Ne.symm h2)]
      have wx := hw x hx
      rw [hsn] at wx
      refine ⟨_, wx.1, wx.2.1, fun y => ?_⟩
      have q1 : (x == a) = false := by simp; omega
      have q2 : (x == b) = false := by simp; omega
      simp [q1, q2, bt]
theorem flip_tour {s : Int} {xs : List Int} (hp : tourP s xs) {a b : Nat} (ha : a < xs.length) (hb : b < xs.length) (hab : a ≠ b) : tourP s (flipL xs a b) := by
  have hl := flipL_len xs a b
  have ht := tour_bits hp
  have hbt : ∀ x y, x < xs.length → bt (flipL xs a b) x y = ((bt xs x y) ^^ ((x == a && y == b) || (x == b && y == a))) := fun x y hx => by
    obtain ⟨S, e, -, h⟩ := flip_at hp ha hb hab x hx
    show (winsN (flipL xs a b) x).testBit y = _
    unfold winsN
    rw [e, Int.toNat_natCast]
    exact h y
  refine tour_of_bits hp.1 (by rw [hl]; exact hp.2.1) (fun i hi => ?_) (fun x hx => ?_) (fun x y hx hy hxy => ?_)
  · rw [hl] at hi ⊢
    obtain ⟨S, e, h, -⟩ := flip_at hp ha hb hab i hi
    exact ⟨S, e, h⟩
  · rw [hl] at hx
    rw [hbt x x hx, ht.2.1 x hx]
    have q : ((x == a && x == b) || (x == b && x == a)) = false := by
      rcases e : ((x == a && x == b) || (x == b && x == a)) with _ | _
      · rfl
      · simp at e; omega
    rw [q]; rfl
  · rw [hl] at hx hy
    rw [hbt x y hx, hbt y x hy, ht.2.2 x y hx hy hxy]
    have q : ((y == a && x == b) || (y == b && x == a)) = ((x == a && y == b) || (x == b && y == a)) := by
      rw [Bool.or_comm, Bool.and_comm (y == b), Bool.and_comm (y == a)]
    rw [q]
    cases bt xs y x <;> cases ((x == a && y == b) || (x == b && y == a)) <;> rfl
end Go.Proofs.YthoodjjjklbggaaDoor

namespace Go.Proofs.YthoodjjjklbggaaDoor
open Go.RowKit Go.Sort
set_option maxRecDepth 100000
variable {n : Nat} {xs : List Int} {sl : Value} {w : World}
/-- a game reversed -/
theorem flip_btN {n : Nat} {xs : List Int} (hp : tourP n xs) {a b : Nat} (ha : a < n) (hb : b < n) (hab : a ≠ b) {x y : Nat} (hx : x < n) : bt (flipL xs a b) x y = (bt xs x y ^^ ((x == a && y == b) || (x == b && y == a))) := by
  have hl := tour_len hp
  obtain ⟨S, e, -, h⟩ := flip_at hp (a := a) (b := b) (by omega) (by omega) hab x (by omega)
  unfold bt winsN
  rw [e]
  exact h y
theorem cFlipped (hp : tourP n xs) (h : Rd w sl xs) (a b : Nat) (ha : a < n) (hb : b < n) : Calls Tryd.prog 78 #[.agg #[.int .i64 n, sl], .int .i64 a, .int .i64 b] w fun e w' => ∃ A c, e = .returned (.agg #[.int .i64 n, .slice A n c]) ∧ Own w' w.heap.size (.slice A n c) (flipL xs a b) ∧ Below w.heap.size w w' :=
  (flipped_any n sl xs a b w h (by rw [tour_len hp]; have := hp.1; omega) (by rw [tour_len hp]; exact ha) (by rw [tour_len hp]; exact hb)).mono fun e w' ⟨v, h1, h2, h3⟩ => by
    obtain ⟨A, c, rfl, -⟩ := h2.form
    rw [flipL_len, tour_len hp] at h1 h2
    exact ⟨A, c, h1, h2, h3⟩
theorem flip_tourN (hp : tourP n xs) {a b : Nat} (ha : a < n) (hb : b < n) (hab : a ≠ b) : tourP n (flipL xs a b) := flip_tour hp (by rw [tour_len hp]; exact ha) (by rw [tour_len hp]; exact hb) hab
theorem cBeats (hp : tourP n xs) (h : Rd w sl xs) (a b : Nat) (ha : a < n) (hb : b < n) : Calls Tryd.prog 40 #[.agg #[.int .i64 n, sl], .int .i64 a, .int .i64 b] w fun e w' => e = .returned (.bool (bt xs a b)) ∧ Below w.heap.size w w' := by
  have := beats_any n sl xs a b w h (by omega) (by rw [tour_len hp]; omega) (by omega) (by have := hp.1; omega)
  obtain ⟨S, e, -⟩ := (tour_bits hp).1 a (by rw [tour_len hp]; exact ha)
  rwa [Int.toNat_natCast, Int.toNat_natCast, bitI_bt e] at this
end Go.Proofs.YthoodjjjklbggaaDoor

namespace Go.Proofs.YthoodjjjklbggaaDoor
open Go.RowKit Go.Sort
set_option maxRecDepth 100000
variable {n : Nat} {xs : List Int} {sl : Value} {w : World}
/-- the reversed tour -/
def trnL (xs : List Int) (n : Nat) : List Int := toL (fun a b => bt xs b a) n
theorem turn_bt {p : Nat → Nat → Bool} {a b : Nat} (ha : a < n) (hb : b < n) : bt (toL p n) a b = toQ p a b := by
  have e : (toL p n).getD a 0 = ((setOf (toQ p a) n : Nat) : Int) := by unfold toL; simp [List.getD_eq_getElem?_getD, ha]
  unfold bt winsN
  rw [e, Int.toNat_natCast, testBit_setOf, decide_eq_true hb, Bool.true_and]
theorem trnL_bt (hp : tourP n xs) {a b : Nat} (ha : a < n) (hb : b < n) : bt (trnL xs n) a b = bt xs b a := by
  unfold trnL
  rw [turn_bt ha hb]
  unfold toQ
  by_cases e : a = b
  · subst e; rw [(tr_bit hp ha ha).1 rfl]; simp
  · rw [show (a == b) = false by simpa using e]; rfl
theorem trnL_tour (hp : tourP n xs) : tourP n (trnL xs n) := by
  have hl : (trnL xs n).length = n := toL_len _ _
  refine tour_of_bits hp.1 (by rw [hl]) (fun i hi => ?_) (fun a ha => ?_) (fun a b ha hb hab => ?_)
  · rw [hl] at hi ⊢
    exact ⟨setOf (toQ (fun a b => bt xs b a) i) n, by unfold trnL toL; simp [List.getD_eq_getElem?_getD, hi], setOf_lt _ _⟩
  · rw [hl] at ha
    rw [trnL_bt hp ha ha, (tr_bit hp ha ha).1 rfl]
  · rw [hl] at ha hb
    rw [trnL_bt hp ha hb, trnL_bt hp hb ha]
    exact (tr_bit hp hb ha).2 (Ne.symm hab)
end Go.Proofs.YthoodjjjklbggaaDoor

