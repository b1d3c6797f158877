/- Texts put together: TgK. -/
import Derived.Test.YthoodjjjklbggaaGreatDoorMTriangles09
import Derived.Test.YthoodjjjklbggaaGreatDoorMTriangles11
import Derived.Test.YthoodjjjklbggaaGreatDoorMTriangles02
import Derived.Test.YthoodjjjklbggaaGreatDoorMTriangles07
namespace Go.Proofs.YthoodjjjklbggaaGreatDoor
open Go.RowKit Go.Sort
set_option maxRecDepth 100000
/-! a tour by its code: the pair x < y has the place y (y - 1) / 2 + x -/
def rB (c x y : Nat) : Bool := if Nat.blt x y = true then c.testBit (y * (y - 1) / 2 + x) else if Nat.blt y x = true then !c.testBit (x * (x - 1) / 2 + y) else false
/-! RealizeScores, plain -/
def rzBef (S : List Int) (x y : Int) : Bool := decide (S.getD x.toNat 0 < S.getD y.toNat 0 ∨ S.getD x.toNat 0 = S.getD y.toNat 0 ∧ x < y)
def rzQ (S : List Int) (P : List Nat) : List Nat := (sortR (rzBef S) (nI P)).map Int.toNat
def rzI (p : Nat) : List Nat → Nat → List Int → List Nat → List Int × List Nat
  | [], _, S, W => (S, W)
  | o :: r, i, S, W => if (i : Int) < S.getD p 0 then rzI p r (i + 1) S (W.set p (W.getD p 0 ||| 2 ^ o)) else rzI p r (i + 1) (S.set o (S.getD o 0 - 1)) (W.set o (W.getD o 0 ||| 2 ^ p))
def rzF : Nat → List Nat → List Int → List Nat → List Nat
  | 0, _, _, W => W
  | f + 1, P, S, W => match rzQ S P with
    | [] => W
    | p :: r => rzF f r (rzI p r 0 S W).1 (rzI p r 0 S W).2
def rzW (S : List Int) (n : Nat) : List Nat := rzF n (List.range n) S (List.replicate n 0)
/-- the sums of the first numbers less what they are at least -/
def slkN (t : List Int) : Nat → Int
  | 0 => 0
  | k + 1 => slkN t k + (t.getD k 0 - k)
/-! the table -/
def tri10 : Nat → Nat × Nat × Nat
  | 0 => (0, 1, 2) | 1 => (0, 1, 3) | 2 => (0, 2, 3) | 3 => (1, 2, 3) | 4 => (0, 1, 4) | 5 => (0, 2, 4) | 6 => (1, 2, 4) | 7 => (0, 3, 4) | 8 => (1, 3, 4) | _ => (2, 3, 4)
def msk (t : Nat × Nat × Nat) : Nat := 2 ^ (t.2.1 * (t.2.1 - 1) / 2 + t.1) + 2 ^ (t.2.2 * (t.2.2 - 1) / 2 + t.2.1) + 2 ^ (t.2.2 * (t.2.2 - 1) / 2 + t.1)
def tkN : Nat → Nat
  | 1 => 15 | 2 => 255 | 3 => 4294963455 | 4 => 115791985711028821205467250371385322433811815887889495873213804446957176877311 | 5 => 1044387947655896896418589783983156400310576036428580917265883177200097856938017833826478983750835469192203001216406158701242054175983359512666501032526238117037866791545298323884912739518531356909161552439378936177712882894578016177787861840734756677735239834804641491291636629277832131748786854010450328775052083773498412945797986167206318998278329953118693065090047778994025746289773228000220187557686177918693766654964471319286344512869408989779317378285522397515712776017315943764301400555882609121064209697156373886325351628642791073095052931559999790175282351817099174508922141803511413307956291595076041948890138299220884201690093695185249533002807329469654414793520838590754586041292888085489881586468101543886454604792124339350305882477728578826272134987037249123035322337644880734169282973854618592441247994768056287499770172344718987682731950677148160303749925212552513703671329367022179214737882715545454578839427648546657287739095872677942791815059329154519997487442466168322748607652224755602377170668485295448031533900831644517784054030625651658506498279609633732081230914069662298743540348379710652970492264091783739611785060407044125739628252602832599176317510973743284850425049926015156390943008192862791601875841279 | _ => 0
def tkT (n c : Nat) : Nat := (tkN n >>> (4 * c)) % 16
def tkS (n c : Nat) : Nat := if Nat.beq (tkT n c) 15 = true then c else c ^^^ msk (tri10 (tkT n c))
def tkOk (n c : Nat) : Bool := Nat.beq (tkT n c) 15 || (Nat.blt (tri10 (tkT n c)).2.2 n && (rB c (tri10 (tkT n c)).1 (tri10 (tkT n c)).2.1 == rB c (tri10 (tkT n c)).2.1 (tri10 (tkT n c)).2.2 && !(rB c (tri10 (tkT n c)).2.1 (tri10 (tkT n c)).2.2 == rB c (tri10 (tkT n c)).1 (tri10 (tkT n c)).2.2)))
def scC (c n : Nat) : List Int := (List.range n).map fun x => ((((List.range n).countP (rB c x)) : Nat) : Int)
def rowC (c n : Nat) : List Nat := (List.range n).map fun x => setOf (rB c x) n
def lanOk (t : List Int) (n : Nat) : Bool := ((List.range (n + 1)).all fun k => decide (0 ≤ slkN t k)) && decide (slkN t n = 0)
def tkChk (n c : Nat) : Bool := tkOk n c && tkOk n (tkS n c) && tkOk n (tkS n (tkS n c)) && tkOk n (tkS n (tkS n (tkS n c))) &&
  decide (rzW (scC c n) n = rowC (tkS n (tkS n (tkS n (tkS n c)))) n) && lanOk (sortR (fun x y => decide (x < y)) (scC c n)) n
theorem tk_all : ∀ n, n < 6 → 1 ≤ n → ((List.range (2 ^ (n * (n - 1) / 2))).all (tkChk n)) = true := by decide +kernel
/-! every tour has a code -/
def pxL : List Nat := [0, 0, 1, 0, 1, 2, 0, 1, 2, 3]
def pyL : List Nat := [1, 2, 2, 3, 3, 3, 4, 4, 4, 4]
theorem px_at : ∀ y, y < 5 → ∀ x, x < y → pxL.getD (y * (y - 1) / 2 + x) 0 = x ∧ pyL.getD (y * (y - 1) / 2 + x) 0 = y := by decide
theorem px_lt : ∀ n, n < 6 → ∀ y, y < n → ∀ x, x < y → y * (y - 1) / 2 + x < n * (n - 1) / 2 := by decide
theorem code_ex {n : Nat} {xs : List Int} (hp : tourP n xs) (h5 : n ≤ 5) : ∃ c, c < 2 ^ (n * (n - 1) / 2) ∧ ∀ x y, x < n → y < n → bt xs x y = rB c x y := by
  refine ⟨setOf (fun i => bt xs (pxL.getD i 0) (pyL.getD i 0)) (n * (n - 1) / 2), setOf_lt _ _, fun x y hx hy => ?_⟩
  unfold rB
  split
  · next h =>
    rw [Nat.blt_eq] at h
    have h1 := px_at y (by omega) x h
    rw [testBit_setOf, decide_eq_true (px_lt n (by omega) y hy x h), Bool.true_and, h1.1, h1.2]
  · next h =>
    split
    · next h2 =>
      rw [Nat.blt_eq] at h2
      have h1 := px_at x (by omega) y h2
      rw [testBit_setOf, decide_eq_true (px_lt n (by omega) x hx y h2), Bool.true_and, h1.1, h1.2]
      exact (tr_bit hp hx hy).2 (by omega)
    · next h2 =>
      rw [Nat.blt_eq] at h h2
      exact (tr_bit hp hx hy).1 (by omega)
/-! one step -/
def mB (m x y : Nat) : Bool := if Nat.blt x y = true then m.testBit (y * (y - 1) / 2 + x) else if Nat.blt y x = true then m.testBit (x * (x - 1) / 2 + y) else false
theorem rB_xor (c m x y : Nat) : rB (c ^^^ m) x y = (rB c x y ^^ mB m x y) := by
  unfold rB mB
  split
  · rw [Nat.testBit_xor]
  · split
    · rw [Nat.testBit_xor]
      generalize c.testBit _ = p
      generalize m.testBit _ = q
      cases p <;> cases q <;> rfl
    · rfl
theorem msk_all : ∀ i, i < 15 → ∀ x, x < 5 → ∀ y, y < 5 → mB (msk (tri10 i)) x y = tE (tri10 i).1 (tri10 i).2.1 (tri10 i).2.2 x y := by decide
theorem tri10_ord : ∀ i, i < 15 → (tri10 i).1 < (tri10 i).2.1 ∧ (tri10 i).2.1 < (tri10 i).2.2 := by decide
theorem tk_step {n c : Nat} {xs : List Int} (hp : tourP n xs) (h5 : n ≤ 5) (hc : ∀ x y, x < n → y < n → bt xs x y = rB c x y) (hk : tkOk n c = true) :
    ∃ ys, tourP n ys ∧ (∀ x y, x < n → y < n → bt ys x y = rB (tkS n c) x y) ∧ tRe n xs ys := by
  unfold tkOk at hk
  unfold tkS
  by_cases h15 : Nat.beq (tkT n c) 15 = true
  · rw [if_pos h15]
    exact ⟨xs, hp, hc, 0, rfl⟩
  · rw [if_neg h15]
    rw [Bool.eq_false_iff.2 h15, Bool.false_or] at hk
    have hlt : tkT n c < 15 := by
      have h1 : tkT n c < 16 := Nat.mod_lt _ (by decide)
      rw [Nat.beq_eq] at h15
      omega
    have hm := msk_all _ hlt
    obtain ⟨o1, o2⟩ := tri10_ord _ hlt
    generalize msk (tri10 (tkT n c)) = m at *
    generalize (tri10 (tkT n c)).1 = a at *
    generalize (tri10 (tkT n c)).2.1 = b at *
    generalize (tri10 (tkT n c)).2.2 = d at *
    simp only [Bool.and_eq_true, Nat.blt_eq, beq_iff_eq, Bool.not_eq_eq_eq_not, Bool.not_true, beq_eq_false_iff_ne, ne_eq] at hk
    obtain ⟨hd, e1, e2⟩ := hk
    have ha : a < n := by omega
    have hb : b < n := by omega
    rw [← hc a b ha hb, ← hc b d hb hd] at e1
    rw [← hc b d hb hd, ← hc a d ha hd] at e2
    have n1 : a ≠ b := by omega
    have n2 : b ≠ d := by omega
    have n3 : a ≠ d := by omega
    have t1 := (tr_bit hp hd ha).2 (Ne.symm n3)
    have t2 := (tr_bit hp hd hb).2 (Ne.symm n2)
    have t3 := (tr_bit hp hb ha).2 (Ne.symm n1)
    rcases q : bt xs b d with _ | _
    · rw [q] at e1 e2 t2
      have q2 : bt xs a d = true := by cases h : bt xs a d; exact absurd h.symm e2; rfl
      have ht : tgP xs n a d b := ⟨ha, hd, hb, by omega, o1, q2, t2, by rw [t3, e1]; rfl⟩
      refine ⟨rv3 xs a d b, rv3_tour hp ha hd hb n3 (Ne.symm n2) n1, fun x y hx hy => ?_, tRe.snoc (ys := xs) ⟨0, rfl⟩ ⟨a, d, b, ht, rfl⟩⟩
      rw [rv3_bt hp ha hd hb n3 (Ne.symm n2) n1 hx, rB_xor, hm x (by omega) y (by omega), hc x y hx hy, tE_turn]
    · rw [q] at e1 e2
      have q2 : bt xs a d = false := by cases h : bt xs a d; rfl; exact absurd h.symm e2
      have ht : tgP xs n a b d := ⟨ha, hb, hd, o1, by omega, e1, q, by rw [t1, q2]; rfl⟩
      refine ⟨rv3 xs a b d, rv3_tour hp ha hb hd n1 n2 n3, fun x y hx hy => ?_, tRe.snoc (ys := xs) ⟨0, rfl⟩ ⟨a, b, d, ht, rfl⟩⟩
      rw [rv3_bt hp ha hb hd n1 n2 n3 hx, rB_xor, hm x (by omega) y (by omega), hc x y hx hy]
theorem sumN_count (p : Nat → Bool) : ∀ n, sumN (fun b => if p b = true then (1 : Int) else 0) n = ((((List.range n).countP p) : Nat) : Int)
  | 0 => rfl
  | n + 1 => by
    rw [sumN, sumN_count p n, List.range_succ, List.countP_append, List.countP_singleton]
    push_cast
    congr 1
    split <;> rfl
theorem scC_eq {n c : Nat} {xs : List Int} (hp : tourP n xs) (hc : ∀ x y, x < n → y < n → bt xs x y = rB c x y) : scL xs n = scC c n := by
  unfold scL scC
  refine List.map_congr_left fun x hx => ?_
  rw [sc_sum hp (List.mem_range.1 hx), sumN_count]
  congr 1
  exact List.countP_congr fun y hy => by rw [hc x y (List.mem_range.1 hx) (List.mem_range.1 hy)]
theorem rowC_eq {n c : Nat} {xs : List Int} (hp : tourP n xs) (hc : ∀ x y, x < n → y < n → bt xs x y = rB c x y) : xs = nI (rowC c n) := by
  refine list_ext0 (n := n) (tour_len hp) (by simp [nI, rowC]) fun i hi => ?_
  have h1 := tour_wins hp (a := i) (by rw [tour_len hp]; exact hi)
  rw [h1.1, show (nI (rowC c n)).getD i 0 = ((setOf (rB c i) n : Nat) : Int) by simp [nI, rowC, hi]]
  congr 1
  refine setOf_eq fun j => ?_
  by_cases hj : j < n
  · rw [decide_eq_true hj, Bool.true_and, ← hc i j hi hj, bt]
  · rw [decide_eq_false hj, Bool.false_and]
    exact Nat.testBit_lt_two_pow (Nat.lt_of_lt_of_le h1.2.1 (Nat.pow_le_pow_right (by decide) (by rw [show ((n : Int)).toNat = n from rfl]; omega)))
/-- what RealizeScores makes is joined to each tour with the scores -/
theorem rz_law {n : Nat} {xs : List Int} (hp : tourP n xs) (h5 : n ≤ 5) : tourP n (nI (rzW (scL xs n) n)) ∧ tRe n xs (nI (rzW (scL xs n) n)) ∧ lanOk (sortR (fun x y => decide (x < y)) (scL xs n)) n = true := by
  obtain ⟨c, hcl, hc⟩ := code_ex hp h5
  have hk := List.all_eq_true.1 (tk_all n (by omega) (by have := hp.1; omega)) c (List.mem_range.2 hcl)
  unfold tkChk at hk
  simp only [Bool.and_eq_true] at hk
  obtain ⟨⟨⟨⟨⟨k1, k2⟩, k3⟩, k4⟩, k5⟩, k6⟩ := hk
  rw [← scC_eq hp hc] at k5 k6
  obtain ⟨y1, p1, c1, r1⟩ := tk_step hp h5 hc k1
  obtain ⟨y2, p2, c2, r2⟩ := tk_step p1 h5 c1 k2
  obtain ⟨y3, p3, c3, r3⟩ := tk_step p2 h5 c2 k3
  obtain ⟨y4, p4, c4, r4⟩ := tk_step p3 h5 c3 k4
  have e := rowC_eq p4 c4
  rw [← of_decide_eq_true k5] at e
  rw [← e]
  exact ⟨p4, r1.trans (r2.trans (r3.trans r4)), k6⟩
/-- equal scores: joined -/
theorem same_join {n : Nat} {xs ys : List Int} (hp : tourP n xs) (hq : tourP n ys) (h5 : n ≤ 5) (h : scL xs n = scL ys n) : tRe n xs ys := by
  have h1 := (rz_law hp h5).2.1
  have h2 := (rz_law hq h5).2.1
  rw [h] at h1
  exact h1.trans (h2.symm hq)
end Go.Proofs.YthoodjjjklbggaaGreatDoor

