/- Texts put together: Bal, Bal2, TourL, DomC, BkF, AllP, ScN, KgP, Mix2, Mix3. -/
import Derived.Test.YtbkiedhaacapbaaGreatMTop24
import Derived.Test.YtbkiedhaacapbaaGreatMTop01
import Derived.Test.YtbkiedhaacapbaaGreatMTop02
import Derived.Test.YtbkiedhaacapbaaGreatMTop22
import Derived.Test.YtbkiedhaacapbaaGreatMTop09
import Derived.Test.YtbkiedhaacapbaaGreatMTop20
import Derived.Test.YtbkiedhaacapbaaGreatMTop16
import Derived.Test.YtbkiedhaacapbaaGreatMTop11
import Derived.Test.YtbkiedhaacapbaaGreatMTop13
import Derived.Test.YtbkiedhaacapbaaGreatMTop07
import Derived.Test.YtbkiedhaacapbaaGreatMTop23
namespace Go.Proofs.YtbkiedhaacapbaaGreat
open Go.RowKit Go.Sort

/-- what player a adds to the balance of b -/
def balT (xs ws : List Int) (b a : Nat) : Int := if bitI (xs.getD a 0) b = true then ws.getD a 0 else if bitI (xs.getD b 0) a = true then - ws.getD a 0 else 0
def balK (xs ws : List Int) (b : Nat) : Nat → Int
  | 0 => 0
  | k + 1 => balK xs ws b k + balT xs ws b k
/-- the balance of player b -/
def balI (xs ws : List Int) (b : Nat) : Int := balK xs ws b ws.length
theorem balK_bd {xs ws : List Int} (b : Nat) (h : ∀ x ∈ ws, 0 ≤ x ∧ x ≤ 100000) (k : Nat) (hk : k ≤ ws.length) : -(100000 * (k : Int)) ≤ balK xs ws b k ∧ balK xs ws b k ≤ 100000 * k := by
  induction k with
  | zero => simp [balK]
  | succ k ih =>
    have ih := ih (by omega)
    have hx := h (ws.getD k 0) (by
      rw [List.getD_eq_getElem?_getD, List.getElem?_eq_getElem (by omega)]; exact List.getElem_mem _)
    simp only [balK, balT]
    repeat' split
    all_goals omega
theorem tour_excl {s : Int} {xs : List Int} (h : tourP s xs) {a b : Nat} (ha : a < xs.length) (hb : b < xs.length) (hab : bitI (xs.getD a 0) b = true) : bitI (xs.getD b 0) a = false := by
  have hT := h.2.2.2
  rcases Nat.lt_trichotomy a b with hlt | rfl | hlt
  · have := (hT b hb).2 a hlt
    rw [hab] at this
    cases hq : bitI (xs.getD b 0) a with
    | false => rfl
    | true => exact absurd hq this
  · have := (hT a ha).1
    rw [hab] at this
    cases this
  · have := (hT a ha).2 b hlt
    rw [hab] at this
    cases hq : bitI (xs.getD b 0) a with
    | false => rfl
    | true => rw [hq] at this; exact absurd rfl this

set_option maxHeartbeats 1000000 in
theorem balance_any (s : Int) (sl : Value) (xs : List Int) (wv : Value) (ws : List Int) (b : Int) (w : World) (h : Rd w sl xs) (h2 : Rd w wv ws) (hp : stratB s xs ws = true) (hb0 : 0 ≤ b) (hb1 : b < ws.length) :
    Calls Tryz.prog 77 #[.agg #[.int .i64 s, sl], wv, .int .i64 b] w fun e w' => e = .returned (.int .i64 (balI xs ws b.toNat)) ∧ Below w.heap.size w w' := by
  obtain ⟨b, rfl⟩ := Int.eq_ofNat_of_zero_le hb0
  obtain ⟨A, c, rfl, hl, hm, hc⟩ := h
  obtain ⟨B, d, rfl, hl2, hm2, hc2⟩ := h2
  unfold maxLen at hm hm2
  obtain ⟨tp, hls, hrange, -⟩ := stratB_true.1 hp
  have hxl : xs.length = ws.length := by have := tp.2.1; omega
  have h8 : ws.length ≤ 8 := by have := tp.1; omega
  have hbl : b < ws.length := by omega
  have HR := Lib.hid hrange
  have HC := Lib.hid hc
  have HC2 := Lib.hid hc2
  have HXL := Lib.hid hxl
  have x0 := TBox.new w s (.slice A xs.length c) 25
  have b0 := below_alloc1 w (.cells #[.int .i64 s, .slice A xs.length c] 25)
  have HB := Lib.hid b0
  have y0 := x0.1
  have y1 := x0.2
  clear hp tp hls hrange hc hc2 hxl x0 b0
  go_enter Tryz.func77, Tryz.ntmps77
  go_wp2
  generalize w.alloc (.cells #[.int .i64 s, .slice A xs.length c] 25) = w0 at *
  go_loop [7, 12] (fun u i => ∃ k : Nat, k ≤ ws.length ∧ i = .int .i64 k ∧ u = .int .i64 (balK xs ws b k)) (fun _ i => ws.length - (intOf i).toNat)
  case atStart => exact ⟨0, by omega, rfl, rfl⟩
  case round =>
    obtain ⟨k, hk, rfl, rfl⟩ := hrel
    by_cases hlt : k < ws.length
    · have hkx : k < xs.length := by rw [HXL.out]; exact hlt
      have hbx : b < xs.length := by rw [HXL.out]; exact hbl
      obtain ⟨g, off, rfl, hg, hx⟩ := HC.out (by omega)
      obtain ⟨g', off', rfl, hg', hy⟩ := HC2.out (by omega)
      have hxk := (HB.out.cell (by exact hg)).trans (hx k hkx)
      have hxb := (HB.out.cell (by exact hg)).trans (hx b hbx)
      have hyk := (HB.out.cell (by exact hg')).trans (hy k hlt)
      have hbd := balK_bd (xs := xs) b HR.out k (by omega)
      have hwk := HR.out ws[k] (List.getElem_mem hlt)
      have hst : balK xs ws b (k + 1) = balK xs ws b k + balT xs ws b k := rfl
      have e1 : xs.getD k 0 = xs[k] := by simp [hkx]
      have e2 : xs.getD b 0 = xs[b] := by simp [hbx]
      have e3 : ws.getD k 0 = ws[k] := by simp [hlt]
      rw [e1] at hxk
      rw [e2] at hxb
      rw [e3] at hyk
      have HT : Hid (balT xs ws b k = if bitI xs[k] b = true then ws[k] else if bitI xs[b] k = true then - ws[k] else 0) := by unfold Hid balT; rw [e1, e2, e3]
      have HS := Lib.hid hst
      clear hx hy hst e1 e2 e3
      generalize balK xs ws b k = m at *
      rcases q1 : bitI xs[k] b with _ | _
      · have q1' : (bits BinOp.and IntKind.i64 (xs[k] / 2 ^ b) 1 == 1) = false := by rw [bit_walk]; exact q1
        rcases q2 : bitI xs[b] k with _ | _
        · have q2' : (bits BinOp.and IntKind.i64 (xs[b] / 2 ^ k) 1 == 1) = false := by rw [bit_walk]; exact q2
          go_wp2
          go_round
          case rel => exact ⟨k + 1, by omega, by go_num, by rw [HS.out, HT.out, q1, q2]; simp⟩
          case measure => simp [intOf]; omega
        · have q2' : (bits BinOp.and IntKind.i64 (xs[b] / 2 ^ k) 1 == 1) = true := by rw [bit_walk]; exact q2
          go_wp2
          go_round
          case rel => exact ⟨k + 1, by omega, by go_num, by rw [HS.out, HT.out, q1, q2]; simp; omega⟩
          case measure => simp [intOf]; omega
      · have q1' : (bits BinOp.and IntKind.i64 (xs[k] / 2 ^ b) 1 == 1) = true := by rw [bit_walk]; exact q1
        go_wp2
        go_round
        case rel => exact ⟨k + 1, by omega, by go_num, by rw [HS.out, HT.out, q1]; simp⟩
        case measure => simp [intOf]; omega
    · obtain rfl : k = ws.length := by omega
      go_wp2
      go_ret
      exact ⟨rfl, HB.out⟩
end Go.Proofs.YtbkiedhaacapbaaGreat

namespace Go.Proofs.YtbkiedhaacapbaaGreat
open Go.RowKit Go.Sort

noncomputable def balOfI (s : Int) (xs ws : List Int) (b : Int) : Int := if (stratB s xs ws && inB b 0 (s - 1)) = true then balI xs ws b.toNat else 0
/-- no balance of the first k is negative -/
def safeK (xs ws : List Int) (k : Nat) : Bool := (List.range k).all fun b => decide (0 ≤ balI xs ws b)
noncomputable def safeB (s : Int) (xs ws : List Int) : Bool := stratB s xs ws && safeK xs ws ws.length
theorem safeK_true {xs ws : List Int} {k : Nat} : safeK xs ws k = true ↔ ∀ b, b < k → 0 ≤ balI xs ws b := by simp [safeK]
theorem safeK_no {xs ws : List Int} {k n : Nat} (hk : k < n) (h : balI xs ws k < 0) : safeK xs ws n = false := by
  rcases hq : safeK xs ws n with _ | _
  · rfl
  · have := safeK_true.1 hq k hk; omega
def bestN (xs ws : List Int) : Nat → Nat
  | 0 => 0
  | k + 1 => if balI xs ws k < balI xs ws (bestN xs ws k) then k else bestN xs ws k
theorem bestN_lt (xs ws : List Int) (k : Nat) : bestN xs ws k ≤ k - 1 := by
  induction k with
  | zero => simp [bestN]
  | succ k ih => simp only [bestN]; split <;> omega
noncomputable def bestI (s : Int) (xs ws : List Int) : Int := if stratB s xs ws = true then bestN xs ws ws.length else -1
theorem strat_dim {s : Int} {xs ws : List Int} (h : stratB s xs ws = true) : 1 ≤ s ∧ s ≤ 8 ∧ (ws.length : Int) = s ∧ (xs.length : Int) = s := by
  obtain ⟨tp, hl, -, -⟩ := stratB_true.1 h
  exact ⟨tp.1.1, tp.1.2, hl, tp.2.1⟩
theorem balI_bd {s : Int} {xs ws : List Int} (h : stratB s xs ws = true) (b : Nat) : -800000 ≤ balI xs ws b ∧ balI xs ws b ≤ 800000 := by
  have hd := strat_dim h
  have := balK_bd (xs := xs) b (stratB_true.1 h).2.2.1 ws.length (Nat.le_refl _)
  unfold balI; omega


set_option maxHeartbeats 1000000 in
theorem implIsSafe (s : Int) (sl : Value) (xs : List Int) (wv : Value) (ws : List Int) (w : World) (h : Rd w sl xs) (h2 : Rd w wv ws) :
    Calls Tryz.prog 42 #[.agg #[.int .i64 s, sl], wv] w fun e w' => e = .returned (.bool (safeB s xs ws)) ∧ Below w.heap.size w w' := by
  have HR := Lib.hid h
  have HW := Lib.hid h2
  obtain ⟨A, c, rfl, -, -, -⟩ := h
  obtain ⟨B, d, rfl, -, hm, -⟩ := h2
  unfold maxLen at hm
  rcases q0 : stratB s xs ws with _ | _
  case false =>
    go_enter Tryz.func42, Tryz.ntmps42
    go_wp2_with fail
    have b0 := below_alloc1 w (.cells #[.int .i64 s, .slice A xs.length c] 25)
    have x0 := TBox.new w s (.slice A xs.length c) 25
    generalize w.alloc (.cells #[.int .i64 s, .slice A xs.length c] 25) = w0 at *
    have HX0 := Lib.hid x0
    have HB0 := Lib.hid b0
    clear x0 b0
    have y0_0 := HX0.out.1
    have y1_0 := HX0.out.2
    go_wp2_with fail
    refine (implStrat s _ xs _ ws _ (HR.out.below HB0.out) (HW.out.below HB0.out)).mono ?_
    rintro e w1 ⟨rfl, hb⟩
    have HX1 := Lib.hid (HX0.out.below hb)
    have HB1 := Lib.hid (Below.then HB0.out hb)
    clear hb HX0 HB0 y0_0 y1_0
    have y0_1 := HX1.out.1
    have y1_1 := HX1.out.2
    rw [q0]
    go_wp2
    go_ret
    exact ⟨ret_bool (by simp [safeB, *]), HB1.out⟩
  have hs := strat_dim q0
  go_enter Tryz.func42, Tryz.ntmps42
  go_wp2_with fail
  have b0 := below_alloc1 w (.cells #[.int .i64 s, .slice A xs.length c] 25)
  have x0 := TBox.new w s (.slice A xs.length c) 25
  generalize w.alloc (.cells #[.int .i64 s, .slice A xs.length c] 25) = w0 at *
  have HX0 := Lib.hid x0
  have HB0 := Lib.hid b0
  clear x0 b0
  have y0_0 := HX0.out.1
  have y1_0 := HX0.out.2
  go_wp2_with fail
  refine (implStrat s _ xs _ ws _ (HR.out.below HB0.out) (HW.out.below HB0.out)).mono ?_
  rintro e w1 ⟨rfl, hb⟩
  have HX1 := Lib.hid (HX0.out.below hb)
  have HB1 := Lib.hid (Below.then HB0.out hb)
  clear hb HX0 HB0 y0_0 y1_0
  have y0_1 := HX1.out.1
  have y1_1 := HX1.out.2
  rw [q0]
  have HS := Lib.hid hs.2.2.1
  go_wp2
  go_loopw [12] (fun i wr => ∃ k : Nat, k ≤ ws.length ∧ i = .int .i64 k ∧ Hid (∀ b, b < k → 0 ≤ balI xs ws b) ∧ Below w.heap.size w wr ∧ TBox wr w.heap.size s (.slice A xs.length c)) (fun i _ => ws.length - (intOf i).toNat)
  case atStart => exact ⟨0, by omega, rfl, fun _ h => absurd h (by omega), HB1.out, HX1.out⟩
  case round =>
    obtain ⟨k, hk, rfl, HP, hb, hx⟩ := hrel
    have HB2 := Lib.hid hb
    have HX2 := Lib.hid hx
    have y0_2 := hx.1
    have y1_2 := hx.2
    clear hx hb HB1 HX1 y0_1 y1_1
    by_cases hlt : k < ws.length
    · have hbd := balI_bd q0 k
      go_wp2_with fail
      refine (balance_any s _ xs _ ws k _ (HR.out.below HB2.out) (HW.out.below HB2.out) q0 (by omega) (by omega)).mono ?_
      rintro e w3 ⟨rfl, hb⟩
      have HX3 := Lib.hid (HX2.out.below hb)
      have HB3 := Lib.hid (Below.then HB2.out hb)
      clear hb HX2 HB2 y0_2 y1_2
      have y0_3 := HX3.out.1
      have y1_3 := HX3.out.2
      rw [show ((k : Int)).toNat = k from rfl]
      rcases q2 : decide (balI xs ws k < 0) with _ | _
      · have hp := of_decide_eq_false q2
        go_wp2
        go_roundw
        case rel =>
          refine ⟨k + 1, by omega, by go_num, fun b hb => ?_, HB3.out, HX3.out⟩
          by_cases hbk : b < k
          · exact HP.out b hbk
          · obtain rfl : b = k := by omega
            omega
        case measure => simp [intOf]; omega
      · have hp := of_decide_eq_true q2
        go_wp2
        go_ret
        exact ⟨ret_bool (by rw [safeB, q0, safeK_no hlt hp]; rfl), HB3.out⟩
    · obtain rfl : k = ws.length := by omega
      go_wp2
      go_ret
      exact ⟨ret_bool (by rw [safeB, q0, safeK_true.2 HP.out]; rfl), HB2.out⟩

end Go.Proofs.YtbkiedhaacapbaaGreat

namespace Go.Proofs.YtbkiedhaacapbaaGreat
open Go.RowKit Go.Sort

end Go.Proofs.YtbkiedhaacapbaaGreat

namespace Go.Proofs.YtbkiedhaacapbaaGreat
open Go.RowKit Go.Sort
set_option maxRecDepth 100000
/-- everybody outside of the set is beaten by somebody in it -/
def domN (xs : List Int) (S : Nat) : Bool := orK xs (memN S 8) S == 2 ^ xs.length - 1
/-! the least dominating set -/
def ldStep (xs : List Int) (best S : Nat) : Nat := if popN 8 S < popN 8 best ∧ domN xs S = true then S else best
def ldK (xs : List Int) (n : Nat) : Nat → Nat
  | 0 => 2 ^ n - 1
  | k + 1 => ldStep xs (ldK xs n k) (k + 1)
theorem ldK_lt (xs : List Int) (n : Nat) : ∀ k, k < 2 ^ n → ldK xs n k < 2 ^ n := by
  intro k
  induction k with
  | zero => intro _; have := Nat.one_le_two_pow (n := n); simp only [ldK]; omega
  | succ k ih =>
    intro hk
    have := ih (by omega)
    simp only [ldK, ldStep]
    split <;> omega
end Go.Proofs.YtbkiedhaacapbaaGreat

namespace Go.Proofs.YtbkiedhaacapbaaGreat
open Go.RowKit Go.Sort
set_option maxRecDepth 100000
/-- nobody beats the whole set, which is transitive -/
noncomputable def okS (xs : List Int) (n S : Nat) : Bool := trN xs S && !((List.range n).any fun a => decide (winsN xs a &&& S = S))
def bkIn (xs : List Int) (S : Nat) (l : List Nat) (o : Nat) : Nat := l.foldl (fun o a => if less S (winsN xs a) = 2 ^ a then o ||| 2 ^ a else o) o
noncomputable def bkK (xs : List Int) (n : Nat) : Nat → Nat
  | 0 => 0
  | k + 1 => if okS xs n (k + 1) = true then bkIn xs (k + 1) (memN (k + 1) 8) (bkK xs n k) else bkK xs n k
theorem bkIn_bit (xs : List Int) (S : Nat) (c : Nat) : ∀ (l : List Nat) (o : Nat), (bkIn xs S l o).testBit c = true ↔ o.testBit c = true ∨ (c ∈ l ∧ less S (winsN xs c) = 2 ^ c) := by
  intro l
  induction l with
  | nil => intro o; simp [bkIn]
  | cons a l ih =>
    intro o
    have : bkIn xs S (a :: l) o = bkIn xs S l (if less S (winsN xs a) = 2 ^ a then o ||| 2 ^ a else o) := rfl
    rw [this, ih]
    by_cases h : less S (winsN xs a) = 2 ^ a
    · rw [if_pos h, Nat.testBit_or, Nat.testBit_two_pow, Bool.or_eq_true, decide_eq_true_eq, List.mem_cons]
      constructor
      · rintro ((h1 | rfl) | h1)
        · exact .inl h1
        · exact .inr ⟨.inl rfl, h⟩
        · exact .inr ⟨.inr h1.1, h1.2⟩
      · rintro (h1 | ⟨rfl | h1, h2⟩)
        · exact .inl (.inl h1)
        · exact .inl (.inr rfl)
        · exact .inr ⟨h1, h2⟩
    · rw [if_neg h, List.mem_cons]
      constructor
      · rintro (h1 | h1)
        · exact .inl h1
        · exact .inr ⟨.inr h1.1, h1.2⟩
      · rintro (h1 | ⟨rfl | h1, h2⟩)
        · exact .inl h1
        · exact absurd h2 h
        · exact .inr ⟨h1, h2⟩
theorem bkK_bit (xs : List Int) (n c : Nat) : ∀ k, (bkK xs n k).testBit c = true ↔ ∃ S, 1 ≤ S ∧ S ≤ k ∧ okS xs n S = true ∧ c ∈ memN S 8 ∧ less S (winsN xs c) = 2 ^ c := by
  intro k
  induction k with
  | zero =>
    simp only [bkK, Nat.zero_testBit]
    constructor
    · intro h; cases h
    · rintro ⟨S, h1, h2, -⟩; omega
  | succ k ih =>
    simp only [bkK]
    by_cases h : okS xs n (k + 1) = true
    · rw [if_pos h, bkIn_bit, ih]
      constructor
      · rintro (⟨S, h1, h2, h3⟩ | h1)
        · exact ⟨S, h1, by omega, h3⟩
        · exact ⟨k + 1, by omega, Nat.le_refl _, h, h1⟩
      · rintro ⟨S, h1, h2, h3⟩
        by_cases e : S = k + 1
        · subst e; exact .inr h3.2
        · exact .inl ⟨S, h1, by omega, h3⟩
    · rw [if_neg h, ih]
      constructor
      · rintro ⟨S, h1, h2, h3⟩; exact ⟨S, h1, by omega, h3⟩
      · rintro ⟨S, h1, h2, h3⟩
        by_cases e : S = k + 1
        · subst e; exact absurd h3.1 h
        · exact ⟨S, h1, by omega, h3⟩
/-- a banks winner is a king -/
theorem bk_king {n : Nat} {xs : List Int} (hp : tourP n xs) {c : Nat} (h : (bkK xs n (2 ^ n - 1)).testBit c = true) : c < n ∧ kingN xs c = true := by
  have h8 : n ≤ 8 := by have := hp.1; omega
  obtain ⟨S, h1, h2, h3, h4, h5⟩ := (bkK_bit xs n c _).1 h
  have hS : S < 2 ^ n := by have := Nat.one_le_two_pow (n := n); omega
  have hc : c < n := bit_lt hS (mem_memN.1 h4).2
  have hother : ∀ d, S.testBit d = true → d ≠ c → bt xs c d = true := fun d hd hdc => by
    have := congrArg (fun z => z.testBit d) h5
    simp only [testBit_less, Nat.testBit_two_pow, hd] at this
    show (winsN xs c).testBit d = true
    rw [decide_eq_false (fun e : c = d => hdc e.symm)] at this
    simpa using this
  refine ⟨hc, (king_iff hp hc).2 fun d hd => ?_⟩
  by_cases e : d = c
  · exact .inl e
  · rcases q : bt xs c d with _ | _
    · right; right
      have hdS : S.testBit d = false := by
        rcases q2 : S.testBit d with _ | _
        · rfl
        · rw [hother d q2 e] at q; cases q
      unfold okS at h3
      rw [Bool.and_eq_true, Bool.not_eq_true', List.any_eq_false] at h3
      have h6 := h3.2 d (by simpa using hd)
      rw [decide_eq_true_eq] at h6
      have hex : ∃ b, S.testBit b = true ∧ bt xs d b = false := by
        refine Classical.byContradiction fun hno => h6 (Nat.eq_of_testBit_eq fun j => ?_)
        rw [Nat.testBit_and]
        rcases q2 : S.testBit j with _ | _
        · simp
        · rcases q3 : bt xs d j with _ | _
          · exact absurd ⟨j, q2, q3⟩ hno
          · have : (winsN xs d).testBit j = true := q3
            rw [this]; rfl
      obtain ⟨b, hb, hdb⟩ := hex
      have hbn : b < n := bit_lt hS hb
      have hbd : b ≠ d := fun e => by subst e; rw [hb] at hdS; cases hdS
      have hbd' := (bt_flip hp hbn hd hbd).2 hdb
      have hbc : b ≠ c := fun e2 => by subst e2; rw [hbd'] at q; cases q
      exact ⟨b, hbn, hother b hb hbc, hbd'⟩
    · exact .inr (.inl rfl)
theorem card_more {T U n c : Nat} (h : ∀ j, T.testBit j = true → U.testBit j = true) (hc : c < n) (h1 : U.testBit c = true) (h2 : T.testBit c = false) : cardN T n + 1 ≤ cardN U n := by
  have e := card_split h n
  have := card_pos hc (S := less U T) (by rw [testBit_less, h1, h2]; rfl)
  omega
theorem card_le (S n : Nat) : cardN S n ≤ n := memN_len S n
theorem max_ex {P : Nat → Prop} (f : Nat → Nat) (N : Nat) (hf : ∀ S, f S ≤ N) : ∀ B, (∃ S, P S ∧ N - f S ≤ B) → ∃ S, P S ∧ ∀ T, P T → f T ≤ f S := by
  intro B
  induction B with
  | zero =>
    rintro ⟨S, h1, h2⟩
    exact ⟨S, h1, fun T _ => by have := hf T; omega⟩
  | succ B ih =>
    rintro ⟨S, h1, h2⟩
    by_cases h : ∀ T, P T → f T ≤ f S
    · exact ⟨S, h1, h⟩
    · obtain ⟨T, hT⟩ := Classical.not_forall.1 h
      obtain ⟨hT1, hT2⟩ := Classical.not_imp.1 hT
      exact ih ⟨T, hT1, by have := hf T; omega⟩
/-- the banks set is not empty -/
theorem bk_some {n : Nat} {xs : List Int} (hp : tourP n xs) : ∃ c, (bkK xs n (2 ^ n - 1)).testBit c = true := by
  have h8 : n ≤ 8 := by have := hp.1; omega
  have hn : 0 < n := by have := hp.1; omega
  let P : Nat → Prop := fun S => S < 2 ^ n ∧ 1 ≤ S ∧ ∀ x y z, S.testBit x = true → S.testBit y = true → S.testBit z = true → bt xs x y = true → bt xs y z = true → bt xs x z = true
  have hP0 : P 1 := ⟨Nat.one_lt_two_pow (by omega), Nat.le_refl _, fun x y z hx hy _ hxy _ => by
    have e : ∀ j, (1 : Nat).testBit j = true → j = 0 := fun j hj => by
      rw [show (1 : Nat) = 2 ^ 0 from rfl, Nat.testBit_two_pow, decide_eq_true_eq] at hj; exact hj.symm
    rw [e x hx, e y hy, (tr_bit hp hn hn).1 rfl] at hxy; cases hxy⟩
  obtain ⟨S, ⟨hS, hS1, hSt⟩, hmax⟩ := max_ex (P := P) (fun S => cardN S n) n (fun S => card_le S n) n ⟨1, hP0, by omega⟩
  have hM : ∀ b ∈ memN S 8, b < n := fun b hb => bit_lt hS (mem_memN.1 hb).2
  obtain ⟨c0, hc0⟩ := Nat.exists_testBit_of_ne_zero (show S ≠ 0 by omega)
  -- a top
  obtain ⟨c, hcS, hcm⟩ := max_ex (P := fun c => S.testBit c = true) (fun c => cardN (S &&& winsN xs c) n) n (fun c => card_le _ n) n ⟨c0, hc0, by omega⟩
  have hcn : c < n := bit_lt hS hcS
  have htop : ∀ b, S.testBit b = true → b ≠ c → bt xs c b = true := fun b hb hbc => by
    have hbn := bit_lt hS hb
    rcases q : bt xs c b with _ | _
    · exfalso
      have hbc' := (bt_flip hp hbn hcn hbc).2 q
      have h1 := card_more (T := S &&& winsN xs c) (U := S &&& winsN xs b) (n := n) (c := c) (fun j hj => by
        rw [Nat.testBit_and, Bool.and_eq_true] at hj ⊢
        exact ⟨hj.1, hSt b c j hb hcS hj.1 hbc' hj.2⟩) hcn (by rw [Nat.testBit_and, hcS]; exact hbc') (by rw [Nat.testBit_and, hcS]; exact (tr_bit hp hcn hcn).1 rfl)
      have := hcm b hb
      omega
    · rfl
  refine ⟨c, (bkK_bit xs n c _).2 ⟨S, hS1, by omega, ?_, mem_memN.2 ⟨by omega, hcS⟩, Nat.eq_of_testBit_eq fun j => ?_⟩⟩
  · unfold okS
    rw [Bool.and_eq_true, Bool.not_eq_true', List.any_eq_false]
    refine ⟨(trN_iff hp (List.length_pos_of_mem (mem_memN.2 ⟨by omega, hcS⟩)) hM).2 fun x y z hx hy hz => hSt x y z (mem_memN.1 hx).2 (mem_memN.1 hy).2 (mem_memN.1 hz).2, fun a ha hd => ?_⟩
    rw [decide_eq_true_eq] at hd
    have han : a < n := by simpa using ha
    have hall : ∀ j, S.testBit j = true → bt xs a j = true := fun j hj => by
      rw [← hd, Nat.testBit_and, Bool.and_eq_true] at hj; exact hj.1
    have haS : S.testBit a = false := by
      rcases q : S.testBit a with _ | _
      · rfl
      · have := hall a q; rw [(tr_bit hp han han).1 rfl] at this; cases this
    have hno : ∀ j, S.testBit j = true → bt xs j a = false := fun j hj => (bt_asym hp han (bit_lt hS hj) (hall j hj)).1
    have hPT : P (S ||| 2 ^ a) := ⟨Nat.or_lt_two_pow hS (Nat.pow_lt_pow_right (by decide) han), by have := Nat.left_le_or (n := S) (m := 2 ^ a); omega, fun x y z hx hy hz hxy hyz => by
      rw [Nat.testBit_or, Nat.testBit_two_pow, Bool.or_eq_true, decide_eq_true_eq] at hx hy hz
      rcases hx with hx | rfl
      · rcases hy with hy | rfl
        · rcases hz with hz | rfl
          · exact hSt x y z hx hy hz hxy hyz
          · rw [hno y hy] at hyz; cases hyz
        · rw [hno x hx] at hxy; cases hxy
      · rcases hz with hz | rfl
        · exact hall z hz
        · rcases hy with hy | rfl
          · rw [hno y hy] at hyz; cases hyz
          · exact hxy⟩
    have h2 := hmax _ hPT
    have h3 := card_more (T := S) (U := S ||| 2 ^ a) (n := n) (c := a) (fun j hj => by rw [Nat.testBit_or, hj]; rfl) han (by rw [Nat.testBit_or, Nat.testBit_two_pow]; simp) haS
    have h4 : cardN (S ||| 2 ^ a) n ≤ cardN S n := h2
    omega
  · rw [testBit_less, Nat.testBit_two_pow]
    by_cases e : c = j
    · subst e
      have : (winsN xs c).testBit c = false := (tr_bit hp hcn hcn).1 rfl
      rw [hcS, this]; simp
    · rw [decide_eq_false e]
      rcases q : S.testBit j with _ | _
      · rfl
      · have : (winsN xs c).testBit j = true := htop j q (Ne.symm e)
        rw [this]; rfl
end Go.Proofs.YtbkiedhaacapbaaGreat

namespace Go.Proofs.YtbkiedhaacapbaaGreat
open Go.RowKit Go.Sort
set_option maxRecDepth 100000
/-- one pair: the lowest digit turns its result -/
def alStep (s : Nat × List Int) (a b : Nat) : Nat × List Int := (s.1 / 2, if s.1 % 2 = 1 then flipL s.2 a b else s.2)
def alIn (a : Nat) : Nat → Nat → Nat × List Int → Nat × List Int
  | 0, _, s => s
  | m + 1, b, s => alIn a m (b + 1) (alStep s a b)
def alOut (n : Nat) : Nat → Nat → Nat × List Int → Nat × List Int
  | 0, _, s => s
  | m + 1, a, s => alOut n m (a + 1) (alIn a (n - (a + 1)) (a + 1) s)
def al0 (n : Nat) : List Int := toL (fun a b => decide (b < a)) n
def allL (n code : Nat) : List Int := (alOut n n 0 (code, al0 n)).2
theorem al0_tour {n : Nat} (h1 : 1 ≤ n) (h8 : n ≤ 8) : tourP n (al0 n) := by
  have hl : (al0 n).length = n := toL_len _ _
  have hg : ∀ i, i < n → (al0 n).getD i 0 = ((setOf (toQ (fun a b => decide (b < a)) i) n : Nat) : Int) := fun i hi => by unfold al0 toL; simp [hi]
  have hb : ∀ a b, a < n → b < n → bt (al0 n) a b = (!(a == b) && decide (b < a)) := fun a b ha hb => by
    unfold bt winsN
    rw [hg a ha, Int.toNat_natCast, testBit_setOf]
    simp [hb, toQ]
  refine tour_of_bits ⟨by omega, by omega⟩ (by omega) (fun i hi => ?_) (fun a ha => ?_) (fun a b ha hb' hab => ?_)
  · rw [hl] at hi ⊢
    exact ⟨_, hg i hi, setOf_lt _ _⟩
  · rw [hl] at ha
    rw [hb a a ha ha]; simp
  · rw [hl] at ha hb'
    rw [hb a b ha hb', hb b a hb' ha]
    rcases Nat.lt_or_gt_of_ne hab with h | h
    · simp [show ¬ b < a by omega, h, show ¬ b = a by omega]
    · simp [show ¬ a < b by omega, h, show ¬ a = b by omega]
theorem alStep_tour {n : Nat} {s : Nat × List Int} {a b : Nat} (hp : tourP n s.2) (ha : a < n) (hb : b < n) (hab : a ≠ b) : tourP n (alStep s a b).2 := by
  unfold alStep
  have hl : s.2.length = n := by have := hp.2.1; omega
  dsimp only
  split
  · exact flip_tour hp (by omega) (by omega) hab
  · exact hp
theorem alIn_tour {n a : Nat} (ha : a < n) : ∀ (m b : Nat) (s : Nat × List Int), b + m ≤ n → a < b → tourP n s.2 → tourP n (alIn a m b s).2 := by
  intro m
  induction m with
  | zero => intro b s _ _ h; exact h
  | succ m ih => intro b s hb hab h; exact ih (b + 1) _ (by omega) (by omega) (alStep_tour h ha (by omega) (by omega))
theorem alOut_tour {n : Nat} : ∀ (m a : Nat) (s : Nat × List Int), a + m ≤ n → tourP n s.2 → tourP n (alOut n m a s).2 := by
  intro m
  induction m with
  | zero => intro a s _ h; exact h
  | succ m ih => intro a s ha h; exact ih (a + 1) _ (by omega) (alIn_tour (by omega) _ _ _ (by omega) (by omega) h)
theorem all_tour {n : Nat} (h1 : 1 ≤ n) (h8 : n ≤ 8) (code : Nat) : tourP n (allL n code) := alOut_tour n 0 _ (by omega) (al0_tour h1 h8)
end Go.Proofs.YtbkiedhaacapbaaGreat

namespace Go.Proofs.YtbkiedhaacapbaaGreat
open Go.RowKit Go.Sort
set_option maxRecDepth 100000
variable {n : Nat} {xs : List Int} {sl : Value} {w : World}
end Go.Proofs.YtbkiedhaacapbaaGreat

namespace Go.Proofs.YtbkiedhaacapbaaGreat
open Go.RowKit Go.Sort
set_option maxRecDepth 100000
section
variable {n : Nat} {xs : List Int}
theorem dom_iff (hp : tourP n xs) {S : Nat} (hS : S < 2 ^ n) : domN xs S = true ↔ ∀ c, c < n → S.testBit c = true ∨ ∃ b, b < n ∧ S.testBit b = true ∧ bt xs b c = true := by
  have hln := tour_len hp
  have h8 : n ≤ 8 := by have := hp.1; omega
  have hM : ∀ b ∈ memN S 8, b < n := fun b hb => bit_lt hS (mem_memN.1 hb).2
  unfold domN
  rw [hln, beq_iff_eq]
  have key : ∀ c, (orK xs (memN S 8) S).testBit c = true ↔ S.testBit c = true ∨ ∃ b, b < n ∧ S.testBit b = true ∧ bt xs b c = true := fun c => by
    rw [testBit_orK, Bool.or_eq_true, List.any_eq_true]
    constructor
    · rintro (h | ⟨b, hb, h⟩)
      · exact .inl h
      · exact .inr ⟨b, hM b hb, (mem_memN.1 hb).2, h⟩
    · rintro (h | ⟨b, hb, h1, h2⟩)
      · exact .inl h
      · exact .inr ⟨b, mem_memN.2 ⟨by omega, h1⟩, h2⟩
  constructor
  · intro h c hc
    refine (key c).1 ?_
    rw [h, testBit_full]
    simpa using hc
  · intro h
    refine Nat.eq_of_testBit_eq fun c => ?_
    rw [testBit_full, Bool.eq_iff_iff, decide_eq_true_eq]
    constructor
    · intro hc
      rcases (key c).1 hc with h1 | ⟨b, hb, -, h2⟩
      · exact bit_lt hS h1
      · exact bt_hi hp hb h2
    · intro hc; exact (key c).2 (h c hc)
theorem full_lt (n : Nat) : 2 ^ n - 1 < 2 ^ n := by have := Nat.one_le_two_pow (n := n); omega
theorem dom_full (hp : tourP n xs) : domN xs (2 ^ n - 1) = true := (dom_iff hp (full_lt n)).2 fun c hc => .inl (by rw [testBit_full]; simpa using hc)
theorem ld_facts (hp : tourP n xs) : ∀ k, k < 2 ^ n → 1 ≤ ldK xs n k ∧ domN xs (ldK xs n k) = true ∧ ∀ S, 1 ≤ S → S ≤ k → domN xs S = true → popN 8 (ldK xs n k) ≤ popN 8 S := by
  have hn : 1 ≤ n := by have := hp.1; omega
  intro k
  induction k with
  | zero =>
    intro _
    refine ⟨?_, dom_full hp, fun S h1 h2 => by omega⟩
    have := Nat.pow_le_pow_right (n := 2) (by decide) hn
    show 1 ≤ 2 ^ n - 1
    omega
  | succ k ih =>
    intro hk
    obtain ⟨h1, h2, h3⟩ := ih (by omega)
    show 1 ≤ ldStep xs (ldK xs n k) (k + 1) ∧ domN xs (ldStep xs (ldK xs n k) (k + 1)) = true ∧ ∀ S, 1 ≤ S → S ≤ k + 1 → domN xs S = true → popN 8 (ldStep xs (ldK xs n k) (k + 1)) ≤ popN 8 S
    unfold ldStep
    by_cases hc : popN 8 (k + 1) < popN 8 (ldK xs n k) ∧ domN xs (k + 1) = true
    · rw [if_pos hc]
      refine ⟨by omega, hc.2, fun S hS1 hS2 hd => ?_⟩
      by_cases e : S = k + 1
      · subst e; exact Nat.le_refl _
      · have := h3 S hS1 (by omega) hd; omega
    · rw [if_neg hc]
      refine ⟨h1, h2, fun S hS1 hS2 hd => ?_⟩
      by_cases e : S = k + 1
      · subst e
        refine Nat.le_of_not_lt fun h => hc ⟨h, hd⟩
      · exact h3 S hS1 (by omega) hd
def ldN (xs : List Int) (n : Nat) : Nat := ldK xs n (2 ^ n - 1)
theorem ld_lt (xs : List Int) (n : Nat) : ldN xs n < 2 ^ n := ldK_lt xs n _ (full_lt n)
theorem ld_dom (hp : tourP n xs) : 1 ≤ ldN xs n ∧ domN xs (ldN xs n) = true := ⟨(ld_facts hp _ (full_lt n)).1, (ld_facts hp _ (full_lt n)).2.1⟩
theorem ld_min (hp : tourP n xs) {S : Nat} (h1 : 1 ≤ S) (hS : S < 2 ^ n) (hd : domN xs S = true) : popN 8 (ldN xs n) ≤ popN 8 S := (ld_facts hp _ (full_lt n)).2.2 S h1 (by omega) hd
theorem n256 (hp : tourP n xs) {S : Nat} (hS : S < 2 ^ n) : S < 256 := Nat.lt_of_lt_of_le hS (Nat.pow_le_pow_right (n := 2) (j := 8) (by decide) (by have := hp.1; omega))
theorem pop_pos {S c : Nat} (hS : S < 256) (h : S.testBit c = true) : 1 ≤ popN 8 S := by
  rw [pop_mem hS]
  exact List.length_pos_of_mem (mem_memN.2 ⟨bit_lt (n := 8) hS h, h⟩)
theorem pop_one {S : Nat} (hS : S < 256) (h : popN 8 S = 1) : ∃ a, S = 2 ^ a := by
  rw [pop_mem hS, List.length_eq_one_iff] at h
  obtain ⟨a, ha⟩ := h
  refine ⟨a, Nat.eq_of_testBit_eq fun j => ?_⟩
  rw [Nat.testBit_two_pow, Bool.eq_iff_iff, decide_eq_true_eq]
  constructor
  · intro hj
    have : j ∈ memN S 8 := mem_memN.2 ⟨bit_lt (n := 8) hS hj, hj⟩
    rw [ha] at this
    exact (List.mem_singleton.1 this).symm
  · rintro rfl
    exact (mem_memN.1 (show a ∈ memN S 8 by rw [ha]; simp)).2
/-- a least dominating set is one player if there is a sovereign -/
theorem ld_one (hp : tourP n xs) : popN 8 (ldN xs n) = 1 ↔ ∃ a, svP xs n a := by
  have h8 : n ≤ 8 := by have := hp.1; omega
  have hl := n256 hp (ld_lt xs n)
  constructor
  · intro h
    obtain ⟨a, ha⟩ := pop_one hl h
    have hd := (ld_dom hp).2
    have hlt := ld_lt xs n
    rw [ha] at hd hlt
    have han : a < n := (Nat.pow_lt_pow_iff_right (by decide)).1 hlt
    refine ⟨a, han, fun b hb => ?_⟩
    by_cases hba : b = a
    · subst hba; exact (tr_bit hp hb hb).1 rfl
    · rcases (dom_iff hp hlt).1 hd b hb with h1 | ⟨c, hc, h1, h2⟩
      · rw [Nat.testBit_two_pow, decide_eq_true_eq] at h1; exact absurd h1.symm hba
      · rw [Nat.testBit_two_pow, decide_eq_true_eq] at h1
        subst h1
        exact (bt_asym hp han hb h2).1
  · rintro ⟨a, ha, hs⟩
    have h1 : 2 ^ a < 2 ^ n := Nat.pow_lt_pow_right (by decide) ha
    have hd : domN xs (2 ^ a) = true := (dom_iff hp h1).2 fun c hc => by
      by_cases e : c = a
      · subst e; exact .inl (by rw [Nat.testBit_two_pow]; simp)
      · exact .inr ⟨a, ha, by rw [Nat.testBit_two_pow]; simp, (bt_flip hp ha hc (Ne.symm e)).2 (hs c hc)⟩
    have h2 := ld_min hp (Nat.one_le_two_pow) h1 hd
    rw [pop_pow (by omega)] at h2
    obtain ⟨c, hc⟩ := Nat.exists_testBit_of_ne_zero (show ldN xs n ≠ 0 by have := (ld_dom hp).1; omega)
    have := pop_pos hl hc
    omega
/-- nobody is left out of a least dominating set -/
theorem ld_less (hp : tourP n xs) {a : Nat} (ha : (ldN xs n).testBit a = true) (h2 : 1 < popN 8 (ldN xs n)) :
    ldN xs n - 2 ^ a = less (ldN xs n) (2 ^ a) ∧ 1 ≤ less (ldN xs n) (2 ^ a) ∧ less (ldN xs n) (2 ^ a) < 2 ^ n ∧ domN xs (less (ldN xs n) (2 ^ a)) = false := by
  have hl := n256 hp (ld_lt xs n)
  have ha8 : a < 8 := bit_lt (n := 8) hl ha
  have hlt : less (ldN xs n) (2 ^ a) < 2 ^ n := less_lt (ld_lt xs n)
  have hsub : ldN xs n - 2 ^ a = less (ldN xs n) (2 ^ a) := sub_less (by omega) (by omega) ha
  have hcard : cardN (less (ldN xs n) (2 ^ a)) 8 + cardN (2 ^ a) 8 = cardN (ldN xs n) 8 := card_split (fun c hc => by
    rw [Nat.testBit_two_pow, decide_eq_true_eq] at hc; subst hc; exact ha) 8
  have e1 : cardN (2 ^ a) 8 = 1 := by
    show (memN (2 ^ a) 8).length = 1
    rw [← pop_mem (Nat.pow_lt_pow_right (n := 8) (by decide) ha8), pop_pow ha8]
  have e2 : cardN (ldN xs n) 8 = popN 8 (ldN xs n) := (pop_mem hl).symm
  have e3 : cardN (less (ldN xs n) (2 ^ a)) 8 = popN 8 (less (ldN xs n) (2 ^ a)) := (pop_mem (n256 hp hlt)).symm
  have h1 : 1 ≤ less (ldN xs n) (2 ^ a) := by
    refine Nat.pos_of_ne_zero fun e => ?_
    rw [e, popN_zero] at e3
    rw [e] at hcard
    omega
  refine ⟨hsub, h1, hlt, ?_⟩
  rcases q : domN xs (less (ldN xs n) (2 ^ a)) with _ | _
  · rfl
  · have := ld_min hp h1 hlt q
    omega
/-- the kings dominate -/
theorem kings_dom (hp : tourP n xs) : domN xs (kgS xs n) = true := (dom_iff hp kg_lt).2 fun c hc => by
  rcases q : kingN xs c with _ | _
  · right
    have hex : ∃ b, b < n ∧ bt xs b c = true := by
      refine Classical.byContradiction fun h => ?_
      have hs : svP xs n c := ⟨hc, fun b hb => by
        rcases q2 : bt xs b c with _ | _
        · rfl
        · exact absurd ⟨b, hb, q2⟩ h⟩
      rw [(sv_king hp hs c hc).2 rfl] at q
      cases q
    obtain ⟨h1, h2, h3⟩ := kst_king hp hc hex
    exact ⟨_, h1, kg_bit.2 ⟨h1, h3⟩, h2⟩
  · exact .inl (kg_bit.2 ⟨hc, q⟩)
theorem kg_pos (hp : tourP n xs) : 1 ≤ kgS xs n := by
  obtain ⟨a, ha, hk⟩ := king_ex hp
  refine Nat.pos_of_ne_zero fun e => ?_
  have := kg_bit.2 ⟨ha, hk⟩
  rw [e, Nat.zero_testBit] at this
  cases this
theorem bkK_lt (hp : tourP n xs) : bkK xs n (2 ^ n - 1) < 2 ^ n := lt_of_testBit fun m hm => by
  rcases q : (bkK xs n (2 ^ n - 1)).testBit m with _ | _
  · rfl
  · have := (bk_king hp q).1; omega
/-- what the law asks of the sets of kings -/
theorem kg_law (hp : tourP n xs) : ∃ k b : Nat, ∃ s : Int, k = kgS xs n ∧ b = bkK xs n (2 ^ n - 1) ∧ s = svI xs n ∧ 1 ≤ k ∧ k < 256 ∧ 1 ≤ b ∧ b < 256 ∧ less b k = 0 ∧ popN 8 k ≠ 2 ∧
    ((popN 8 k = 1 ∧ 0 ≤ s ∧ k = b ∧ popN 8 b = 1) ∨ (popN 8 k ≠ 1 ∧ s = -1)) := by
  have h8 : n ≤ 8 := by have := hp.1; omega
  have hk := n256 hp (kg_lt (xs := xs) (n := n))
  have hb := n256 hp (bkK_lt hp)
  obtain ⟨c, hc⟩ := bk_some hp
  have hb1 : 1 ≤ bkK xs n (2 ^ n - 1) := Nat.pos_of_ne_zero fun e => by rw [e, Nat.zero_testBit] at hc; cases hc
  have hsub : ∀ c, (bkK xs n (2 ^ n - 1)).testBit c = true → (kgS xs n).testBit c = true := fun c h => kg_bit.2 (bk_king hp h)
  have hless : less (bkK xs n (2 ^ n - 1)) (kgS xs n) = 0 := Nat.eq_of_testBit_eq fun j => by
    rw [testBit_less, Nat.zero_testBit]
    rcases q : (bkK xs n (2 ^ n - 1)).testBit j with _ | _
    · rfl
    · rw [hsub j q]; rfl
  refine ⟨_, _, _, rfl, rfl, rfl, kg_pos hp, hk, hb1, hb, hless, ?_⟩
  rcases svI_facts hp with ⟨a, e, hs⟩ | ⟨e, hs⟩
  · have hkA := sv_kings hp hs
    have han : a < 8 := by have := hs.1; omega
    have hbA : bkK xs n (2 ^ n - 1) = 2 ^ a := Nat.eq_of_testBit_eq fun j => by
      rw [Nat.testBit_two_pow, Bool.eq_iff_iff, decide_eq_true_eq]
      constructor
      · intro h
        have := hsub j h
        rw [hkA, Nat.testBit_two_pow, decide_eq_true_eq] at this
        exact this
      · rintro rfl
        have h2 := hsub c hc
        rw [hkA, Nat.testBit_two_pow, decide_eq_true_eq] at h2
        rw [h2]; exact hc
    rw [hkA, hbA, e, pop_pow han]
    exact ⟨by decide, .inl ⟨rfl, by omega, rfl, rfl⟩⟩
  · have := king_three hp hs
    exact ⟨by omega, .inr ⟨by omega, e⟩⟩
/-- what the law asks of each player -/
theorem kg_player (hp : tourP n xs) {a : Nat} (ha : a < n) : ∃ x y : Nat, x = climbF xs 9 a ∧ y = kstepN xs a ∧ x < n ∧ y < n ∧ kingN xs x = true ∧ (kingN xs a = true → x = a) ∧ (y ≠ a → bt xs y a = true) ∧ (y = a ↔ (a : Int) = svI xs n) := by
  have hln := tour_len hp
  have hstep : ∀ a, a < n → (∃ b, b < n ∧ bt xs b a = true) ∨ svP xs n a := fun a ha => by
    by_cases h : ∃ b, b < n ∧ bt xs b a = true
    · exact .inl h
    · refine .inr ⟨ha, fun b hb => ?_⟩
      rcases q : bt xs b a with _ | _
      · rfl
      · exact absurd ⟨b, hb, q⟩ h
  have hclimb : climbF xs 9 a < n ∧ kingN xs (climbF xs 9 a) = true := by
    rcases q : kingN xs a with _ | _
    · rw [← climb_step hp (by omega) q]
      rcases hstep a ha with h | h
      · obtain ⟨h1, h2, h3⟩ := kst_king hp ha h
        rw [climb_stop h3]
        exact ⟨h1, h3⟩
      · rw [(sv_king hp h a ha).2 rfl] at q; cases q
    · rw [climb_stop q]; exact ⟨ha, q⟩
  refine ⟨_, _, rfl, rfl, hclimb.1, ?_, hclimb.2, fun h => climb_stop h, ?_, ?_⟩
  · have := kstep_lt (xs := xs) (a := a) (by omega); omega
  · intro h
    rcases hstep a ha with h1 | h1
    · exact (kst_king hp ha h1).2.1
    · exact absurd (kst_none hp h1.2) h
  · rcases svI_facts hp with ⟨s, e, hs⟩ | ⟨e, hs⟩
    · constructor
      · intro h
        rcases hstep a ha with h1 | h1
        · have h2 := (kst_king hp ha h1).2.1
          rw [h, (tr_bit hp ha ha).1 rfl] at h2; cases h2
        · have h3 : a = s := (sv_king hp hs a ha).1 ((sv_king hp h1 a ha).2 rfl)
          rw [e, h3]
      · intro h
        have : a = s := by omega
        subst this
        exact kst_none hp hs.2
    · constructor
      · intro h
        rcases hstep a ha with h1 | h1
        · have h2 := (kst_king hp ha h1).2.1
          rw [h, (tr_bit hp ha ha).1 rfl] at h2; cases h2
        · exact absurd h1 (hs a)
      · intro h; omega
/-- who has the greatest score is a king -/
theorem top_king (hp : tourP n xs) {a : Nat} (ha : a < n) (h : ∀ c, c < n → scN xs c ≤ scN xs a) : kingN xs a = true := by
  have hln := tour_len hp
  rcases q : kingN xs a with _ | _
  · have h1 := step_up hp (by omega) q
    have h2 := h (kstepN xs a) (by have := kstep_lt (xs := xs) (a := a) (by omega); omega)
    unfold scN at h2
    omega
  · rfl
/-! contracts -/
variable {sl : Value} {w : World}
def cvB (xs : List Int) (c a : Nat) : Bool := bt xs c a && decide (less (winsN xs a) (winsN xs c) = 0)
theorem cvB_iff (hp : tourP n xs) {c a : Nat} (ha : a < n) : cvB xs c a = true ↔ cvN xs n c a := by
  unfold cvB cvN
  rw [Bool.and_eq_true, decide_eq_true_eq]
  refine and_congr_right fun _ => ?_
  constructor
  · intro h j _ hj
    have := congrArg (fun z => z.testBit j) h
    simp only [testBit_less, Nat.zero_testBit] at this
    rw [show (winsN xs a).testBit j = true from hj] at this
    rcases q : bt xs c j with _ | _
    · rw [show (winsN xs c).testBit j = false from q] at this; cases this
    · rfl
  · intro h
    refine Nat.eq_of_testBit_eq fun j => ?_
    rw [testBit_less, Nat.zero_testBit]
    rcases q : (winsN xs a).testBit j with _ | _
    · rfl
    · rw [show (winsN xs c).testBit j = true from h j (bt_hi hp ha q) q]; rfl
end
/-! counts of tours by their kings -/
noncomputable def ckN (n k : Nat) (l : List Nat) : Nat := (l.filter fun c => decide (popN 8 (kgS (allL n c) n) = k)).length
theorem ck_snoc (n k : Nat) (l : List Nat) (c : Nat) : ckN n k (l ++ [c]) = ckN n k l + (decide (popN 8 (kgS (allL n c) n) = k)).toNat := by
  unfold ckN
  rw [List.filter_append, List.length_append]
  congr 1
  rw [List.filter_cons]
  cases decide (popN 8 (kgS (allL n c) n) = k) <;> simp
theorem ck_le (n k : Nat) (l : List Nat) : ckN n k l ≤ l.length := List.length_filter_le _ _
def sumK (f : Nat → Nat) : Nat → Nat
  | 0 => 0
  | k + 1 => sumK f k + f k
theorem sumK_add (f g : Nat → Nat) : ∀ k, sumK (fun i => f i + g i) k = sumK f k + sumK g k := by
  intro k
  induction k with
  | zero => rfl
  | succ k ih => simp only [sumK, ih]; omega
theorem sumK_one {v : Nat} : ∀ k, v < k → sumK (fun i => (decide (v = i)).toNat) k = 1 := by
  have h0 : ∀ k, k ≤ v → sumK (fun i => (decide (v = i)).toNat) k = 0 := by
    intro k
    induction k with
    | zero => intro _; rfl
    | succ k ih => intro h; simp only [sumK]; rw [ih (by omega), decide_eq_false (by omega)]; rfl
  intro k
  induction k with
  | zero => intro h; omega
  | succ k ih =>
    intro h
    simp only [sumK]
    by_cases e : v = k
    · subst e; rw [h0 v (Nat.le_refl _)]; simp
    · rw [ih (by omega), decide_eq_false e]; rfl
/-- each tour has some number of kings -/
theorem ck_total {n : Nat} (h1 : 1 ≤ n) (h8 : n ≤ 8) (l : List Nat) : sumK (fun k => ckN n k l) (n + 1) = l.length := by
  generalize hm : l.length = m
  induction m generalizing l with
  | zero =>
    obtain rfl := List.length_eq_zero_iff.1 hm
    have : ∀ k, sumK (fun k => ckN n k []) k = 0 := by
      intro k
      induction k with
      | zero => rfl
      | succ k ih => simp only [sumK, ih]; rfl
    exact this _
  | succ m ih =>
    obtain ⟨l', c, rfl⟩ : ∃ l' c, l = l' ++ [c] := ⟨l.dropLast, l.getLast (by intro e; subst e; cases hm), (List.dropLast_concat_getLast _).symm⟩
    have h2 := ih l' (by simpa using hm)
    have e : (fun k => ckN n k (l' ++ [c])) = fun k => ckN n k l' + (decide (popN 8 (kgS (allL n c) n) = k)).toNat := by
      funext k; exact ck_snoc n k l' c
    have hp := all_tour h1 h8 c
    have hle : popN 8 (kgS (allL n c) n) < n + 1 := by
      rw [pop_mem (n256 hp kg_lt)]
      have : memN (kgS (allL n c) n) 8 = memN (kgS (allL n c) n) n := memN_top h8 (Nat.div_eq_of_lt kg_lt)
      rw [this]
      have := memN_len (kgS (allL n c) n) n
      omega
    rw [e, sumK_add, h2, sumK_one _ hle]
theorem ck_two {n : Nat} (h1 : 1 ≤ n) (h8 : n ≤ 8) (l : List Nat) : ckN n 2 l = 0 := by
  unfold ckN
  rw [List.length_eq_zero_iff, List.filter_eq_nil_iff]
  intro c _ h
  rw [decide_eq_true_eq] at h
  obtain ⟨k, b, s, rfl, -, -, -, -, -, -, -, h2, -⟩ := kg_law (all_tour h1 h8 c)
  exact h2 h
end Go.Proofs.YtbkiedhaacapbaaGreat

namespace Go.Proofs.YtbkiedhaacapbaaGreat
open Go.RowKit

/-- m times the one plus n times the other -/
def mixed (xs ys : List Int) (m n : Int) : List Int := (List.range xs.length).map fun i => m * xs.getD i 0 + n * ys.getD i 0
theorem mixed_length (xs ys : List Int) (m n : Int) : (mixed xs ys m n).length = xs.length := by simp [mixed]
def mixP (xs ys : List Int) (m n : Int) : Prop := (1 ≤ xs.length ∧ xs.length ≤ 8) ∧ ys.length = xs.length ∧ (∀ x ∈ xs, 0 ≤ x ∧ x ≤ 100000) ∧ (∀ y ∈ ys, 0 ≤ y ∧ y ≤ 100000) ∧ (0 ≤ m ∧ m ≤ 1000) ∧ (0 ≤ n ∧ n ≤ 1000)
noncomputable def mixOk (xs ys : List Int) (m n : Int) : Bool := @decide (mixP xs ys m n ∧ gcdL (mixed xs ys m n) ≠ 0) (Classical.propDecidable _)
noncomputable def mixL (xs ys : List Int) (m n : Int) : List Int := if mixOk xs ys m n = true then lowL (mixed xs ys m n) else []
theorem mixOk_true {xs ys : List Int} {m n : Int} : mixOk xs ys m n = true ↔ mixP xs ys m n ∧ gcdL (mixed xs ys m n) ≠ 0 := by unfold mixOk; simp
theorem mixOk_false {xs ys : List Int} {m n : Int} (h : ¬ (mixP xs ys m n ∧ gcdL (mixed xs ys m n) ≠ 0)) : mixOk xs ys m n = false := by
  rcases hb : mixOk xs ys m n with _ | _
  · rfl
  · exact absurd (mixOk_true.1 hb) h
theorem mixL_len (xs ys : List Int) (m n : Int) : (mixL xs ys m n).length ≤ 8 := by
  unfold mixL
  split
  · rename_i h
    have := (mixOk_true.1 h).1.1
    simp [lowL, mixed_length]; omega
  · simp
theorem mixed_bd {xs ys : List Int} {m n : Int} (h : mixP xs ys m n) : ∀ x ∈ mixed xs ys m n, 0 ≤ x ∧ x ≤ 200000000 := by
  intro x hx
  obtain ⟨i, hi, rfl⟩ := List.mem_map.1 hx
  obtain ⟨_, hl, hx, hy, hm, hn⟩ := h
  have hi' : i < xs.length := by simpa using hi
  have h1 := hx xs[i] (List.getElem_mem hi')
  have h2 := hy (ys[i]'(by omega)) (List.getElem_mem _)
  have e1 : xs.getD i 0 = xs[i] := by simp [hi']
  have e2 : ys.getD i 0 = ys[i]'(by omega) := by simp [show i < ys.length by omega]
  rw [e1, e2]
  have a1 : 0 ≤ m * xs[i] := Int.mul_nonneg hm.1 h1.1
  have a2 : m * xs[i] ≤ 1000 * 100000 := Int.mul_le_mul hm.2 h1.2 h1.1 (by omega)
  have b1 : 0 ≤ n * ys[i]'(by omega) := Int.mul_nonneg hn.1 h2.1
  have b2 : n * ys[i]'(by omega) ≤ 1000 * 100000 := Int.mul_le_mul hn.2 h2.2 h2.1 (by omega)
  omega
theorem mixed_take {xs ys : List Int} {m n : Int} {k : Nat} (hk : k < xs.length) : (mixed xs ys m n).take (k + 1) = (mixed xs ys m n).take k ++ [m * xs.getD k 0 + n * ys.getD k 0] := by
  rw [List.take_succ_eq_append_getElem (by rw [mixed_length]; exact hk)]
  simp [mixed]

theorem mix_no {xs ys : List Int} {m n : Int} (h : ¬ mixP xs ys m n) : mixOk xs ys m n = false ∧ mixL xs ys m n = [] := by
  have e := mixOk_false (xs := xs) (ys := ys) (m := m) (n := n) fun hh => h hh.1
  exact ⟨e, by unfold mixL; rw [e]; rfl⟩
theorem allB_trueM {xs : List Int} {lo hi : Int} (h : ∀ x ∈ xs, lo ≤ x ∧ x ≤ hi) : allB xs lo hi = true := by
  unfold allB; rw [List.all_eq_true]; exact fun x hx => inB_true.2 (h x hx)
theorem allB_ofM {xs : List Int} {lo hi : Int} (h : allB xs lo hi = true) : ∀ x ∈ xs, lo ≤ x ∧ x ≤ hi := by
  unfold allB at h; rw [List.all_eq_true] at h; exact fun x hx => inB_true.1 (h x hx)
theorem maxI_gcd {xs : List Int} (h0 : ∀ x ∈ xs, 0 ≤ x) (hne : 0 < xs.length) : (maxI xs == 0) = true ↔ gcdL xs = 0 := by
  have h1 := maxI_pos h0 hne
  have h2 : 0 ≤ maxI xs := by
    obtain ⟨j, hj, e⟩ := maxTo_mem xs (xs.length - 1)
    have hjl : j < xs.length := by omega
    have := h0 _ (List.getElem_mem hjl)
    unfold maxI
    rw [e, List.getElem?_eq_getElem hjl]
    exact this
  rw [gcdL_zero h0, beq_iff_eq]
  constructor
  · intro h x hx
    exact Classical.byContradiction fun hne => by have := h1.2 ⟨x, hx, hne⟩; omega
  · intro h
    have : ¬ 0 < maxI xs := fun hp => by obtain ⟨x, hx, hne⟩ := h1.1 hp; exact hne (h x hx)
    omega
end Go.Proofs.YtbkiedhaacapbaaGreat

namespace Go.Proofs.YtbkiedhaacapbaaGreat
open Go.RowKit

end Go.Proofs.YtbkiedhaacapbaaGreat

