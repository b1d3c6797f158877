/- Texts put together: Sets, Score, Beat, ScoreOf, App, Mem, King, KStep, Own0, RowsL, TourLw. -/
import Derived.Test.YthoodjjjklbggaaGreatDoorMTriangles01
namespace Go.Proofs.YthoodjjjklbggaaGreatDoor
open Go.RowKit

/-- the set of the numbers below k with p -/
def setOf (p : Nat → Bool) : Nat → Nat
  | 0 => 0
  | k + 1 => setOf p k + if p k then 2 ^ k else 0
theorem setOf_lt (p : Nat → Bool) (k : Nat) : setOf p k < 2 ^ k := by
  induction k with
  | zero => simp [setOf]
  | succ k ih =>
    have := Nat.pow_succ (n := 2) (m := k)
    simp only [setOf]
    split <;> omega
theorem testBit_setOf (p : Nat → Bool) (k j : Nat) : (setOf p k).testBit j = (decide (j < k) && p j) := by
  induction k with
  | zero => simp [setOf]
  | succ k ih =>
    simp only [setOf]
    rcases h : p k with _ | _
    · simp only [Bool.false_eq_true, if_false, Nat.add_zero, ih]
      by_cases e : j = k
      · subst e; simp [h]
      · have : decide (j < k + 1) = decide (j < k) := by rw [decide_eq_decide]; omega
        rw [this]
    · simp only [if_true]
      rw [testBit_add_top _ _ _ (setOf_lt p k), ih]
      by_cases e : j = k
      · subst e; simp [h]
      · have : decide (j < k + 1) = decide (j < k) := by rw [decide_eq_decide]; omega
        rw [this]
        have : decide (k = j) = false := by simp; omega
        rw [this, Bool.or_false]
theorem setOf_eq {S k : Nat} {p : Nat → Bool} (h : ∀ j, S.testBit j = (decide (j < k) && p j)) : S = setOf p k := Nat.eq_of_testBit_eq fun j => by rw [h, testBit_setOf]
theorem setOf_congr {k : Nat} {p q : Nat → Bool} (h : ∀ j, j < k → p j = q j) : setOf p k = setOf q k := setOf_eq fun j => by
  rw [testBit_setOf]
  by_cases e : j < k
  · simp [h j e]
  · simp [e]
theorem testBit_full (n j : Nat) : (2 ^ n - 1).testBit j = decide (j < n) := Nat.testBit_two_pow_sub_one n j
theorem setOf_full {n : Nat} {p : Nat → Bool} (h : ∀ j, j < n → p j = true) : 2 ^ n - 1 = setOf p n := setOf_eq fun j => by
  rw [testBit_full]
  by_cases e : j < n
  · simp [e, h j e]
  · simp [e]
theorem pow_le {n : Nat} (h : n ≤ 8) : 2 ^ n ≤ 256 := Nat.le_trans (Nat.pow_le_pow_right (by decide) h) (by decide)
theorem setOf_small (p : Nat → Bool) {k : Nat} (h : k ≤ 8) : setOf p k < 256 := Nat.lt_of_lt_of_le (setOf_lt p k) (pow_le h)
theorem nodup_le : ∀ (n : Nat) (ys : List Int), ys.Nodup → (∀ y ∈ ys, 0 ≤ y ∧ y < n) → ys.length ≤ n := by
  intro n
  induction n with
  | zero =>
    intro ys _ h
    cases ys with
    | nil => simp
    | cons a l => have := h a (by simp); omega
  | succ n ih =>
    intro ys hn h
    have h1 := ih (ys.erase (n : Int)) (hn.erase _) (fun y hy => by
      have := (hn.mem_erase_iff).1 hy
      have h2 := h y this.2
      omega)
    by_cases hm : (n : Int) ∈ ys
    · rw [List.length_erase_of_mem hm] at h1; omega
    · rw [List.erase_of_not_mem hm] at h1; omega
theorem add_or {S a : Nat} (hS : S < 2 ^ 62) (ha : a ≤ 61) (h : S.testBit a = false) : S + 2 ^ a = S ||| 2 ^ a := by
  have hp : 2 ^ a ≤ 2 ^ 61 := Nat.pow_le_pow_right (by decide) ha
  have h1 : S < 2 ^ 64 := Nat.lt_trans hS (by decide)
  have h2 : 2 ^ a < 2 ^ 64 := Nat.lt_of_le_of_lt hp (by decide)
  have hb : (BitVec.ofNat 64 S) &&& (BitVec.ofNat 64 (2 ^ a)) = 0#64 := by
    apply BitVec.eq_of_toNat_eq
    rw [BitVec.toNat_and, BitVec.toNat_ofNat, BitVec.toNat_ofNat, Nat.mod_eq_of_lt h1, Nat.mod_eq_of_lt h2]
    apply Nat.eq_of_testBit_eq
    intro i
    rw [Nat.testBit_and, Nat.testBit_two_pow]
    by_cases e : a = i
    · subst e; simp [h]
    · simp [e]
  have := congrArg BitVec.toNat (BitVec.add_eq_or_of_and_eq_zero _ _ hb)
  rw [BitVec.toNat_add, BitVec.toNat_or, BitVec.toNat_ofNat, BitVec.toNat_ofNat, Nat.mod_eq_of_lt h1, Nat.mod_eq_of_lt h2, Nat.mod_eq_of_lt (by
    have e1 : (2 : Nat) ^ 62 = 4611686018427387904 := by decide
    have e2 : (2 : Nat) ^ 61 = 2305843009213693952 := by decide
    have e3 : (2 : Nat) ^ 64 = 18446744073709551616 := by decide
    omega)] at this
  exact this
/-- a new element -/
theorem testBit_add {S a : Nat} (hS : S < 2 ^ 62) (ha : a ≤ 61) (h : S.testBit a = false) (m : Nat) : (S + 2 ^ a).testBit m = (S.testBit m || decide (a = m)) := by
  rw [add_or hS ha h, Nat.testBit_or, Nat.testBit_two_pow]
theorem less_lt {S b n : Nat} (h : S < 2 ^ n) : less S b < 2 ^ n := lt_of_testBit fun m hm => by
  rw [testBit_less, Nat.testBit_lt_two_pow (Nat.lt_of_lt_of_le h (Nat.pow_le_pow_right (by decide) hm)), Bool.false_and]
/-- without an element -/
theorem sub_less {S a : Nat} (hS : S < 2 ^ 62) (ha : a ≤ 61) (h : S.testBit a = true) : S - 2 ^ a = less S (2 ^ a) := by
  have h1 := add_or (S := less S (2 ^ a)) (a := a) (less_lt hS) ha (by rw [testBit_less, Nat.testBit_two_pow]; simp)
  have h2 : less S (2 ^ a) ||| 2 ^ a = S := by
    apply Nat.eq_of_testBit_eq
    intro i
    rw [Nat.testBit_or, testBit_less, Nat.testBit_two_pow]
    by_cases e : a = i
    · subst e; simp [h]
    · simp [e]
  omega
theorem testBit_sub {S a : Nat} (hS : S < 2 ^ 62) (ha : a ≤ 61) (h : S.testBit a = true) (m : Nat) : (S - 2 ^ a).testBit m = (S.testBit m && !decide (a = m)) := by
  rw [sub_less hS ha h, testBit_less, Nat.testBit_two_pow]
theorem full_hi (n : Nat) (h : n ≤ 8) : wrap64 (wrap64 (2 ^ n) - 1) = 2 ^ n - 1 := by
  have h1 : 2 ^ n ≤ 2 ^ 8 := Nat.pow_le_pow_right (by decide) h
  have h3 : ((2 : Int) ^ n) = ((2 ^ n : Nat) : Int) := by simp
  rw [h3]
  rw [show (2 : Nat) ^ 8 = 256 from rfl] at h1
  have h2 : 0 < 2 ^ n := Nat.two_pow_pos _
  generalize 2 ^ n = p at *
  rw [IntWalk.wrap64_in (p : Int) (by omega), IntWalk.wrap64_in _ (by omega)]
theorem full_nat (n : Nat) (h : n ≤ 8) : wrap64 (wrap64 (2 ^ n) - 1) = ((2 ^ n - 1 : Nat) : Int) := by
  rw [full_hi n h, Int.natCast_sub Nat.one_le_two_pow]; simp
theorem shl_nat (a : Nat) (h : a ≤ 61) : wrap64 (2 ^ a) = ((2 ^ a : Nat) : Int) := by
  have h1 : 2 ^ a ≤ 2 ^ 61 := Nat.pow_le_pow_right (by decide) h
  rw [show (2 : Nat) ^ 61 = 2305843009213693952 from by decide] at h1
  have h2 : ((2 : Int) ^ a) = ((2 ^ a : Nat) : Int) := by simp
  rw [h2]
  generalize 2 ^ a = p at *
  rw [wrap64_nat _ (by omega)]
theorem pow_lt63 {a : Nat} (h : a ≤ 61) : 2 ^ a < 9223372036854775808 := by
  have h1 : 2 ^ a ≤ 2 ^ 61 := Nat.pow_le_pow_right (by decide) h
  rw [show (2 : Nat) ^ 61 = 2305843009213693952 from by decide] at h1
  omega
/-- 'S &^ (1<<a)' -/
theorem andNot_shl (S a : Nat) (hS : S < 4611686018427387904) (h : a ≤ 61) : bits .andNot .i64 (S : Int) (wrap64 (2 ^ a)) = ((less S (2 ^ a) : Nat) : Int) := by
  rw [shl_nat a h, i64_andNot_nat _ _ (by omega) (pow_lt63 h)]
/-- 'S | 1<<a' -/
theorem or_shl (S a : Nat) (hS : S < 4611686018427387904) (h : a ≤ 61) : bits .or .i64 (S : Int) (wrap64 (2 ^ a)) = ((S ||| 2 ^ a : Nat) : Int) := by
  rw [shl_nat a h, i64_or_nat _ _ (by omega) (pow_lt63 h)]
end Go.Proofs.YthoodjjjklbggaaGreatDoor

namespace Go.Proofs.YthoodjjjklbggaaGreatDoor
open Go.RowKit Go.Sort

/-- the number of binary digits 1 -/
def popN : Nat → Nat → Nat
  | 0, _ => 0
  | k + 1, n => n % 2 + popN k (n / 2)
theorem popN_zero (k : Nat) : popN k 0 = 0 := by
  induction k with
  | zero => rfl
  | succ k ih => simp [popN, ih]
theorem popN_le (k n : Nat) : popN k n ≤ k := by
  induction k generalizing n with
  | zero => simp [popN]
  | succ k ih =>
    have := ih (n / 2)
    simp only [popN]; omega
set_option maxHeartbeats 1000000 in
theorem ones64_any (x : Nat) (w : World) (h : x < 256) :
    Calls Tryz.prog 64 #[.int .u64 x] w fun e w' => e = .returned (.int .i64 (popN 8 x : Nat)) ∧ w = w' := by
  obtain ⟨n, rfl⟩ : ∃ n : Fin 256, n.val = x := ⟨⟨x, h⟩, rfl⟩
  go_enter Tryz.func64, Tryz.ntmps64
  go_wp2
  go_ret
  refine ⟨ret_int ?_, rfl⟩
  clear h
  revert n
  decide +kernel
set_option maxHeartbeats 400000 in
theorem ones_any (x : Nat) (w : World) (h : x < 256) :
    Calls Tryz.prog 31 #[.int .u64 x] w fun e w' => e = .returned (.int .i64 (popN 8 x : Nat)) ∧ w = w' := by
  go_enter Tryz.func31, Tryz.ntmps31
  go_wp2_with (go_at_call 64; refine (ones64_any _ _ h).mono ?_; rintro e w1 ⟨rfl, rfl⟩)
  go_ret
  exact ⟨rfl, rfl⟩
end Go.Proofs.YthoodjjjklbggaaGreatDoor

namespace Go.Proofs.YthoodjjjklbggaaGreatDoor
open Go.RowKit Go.Sort

noncomputable def beatB (s : Int) (xs : List Int) (a b : Int) : Bool := tourB s xs && inB a 0 (s - 1) && inB b 0 (s - 1) && bitI (xs.getD a.toNat 0) b.toNat

end Go.Proofs.YthoodjjjklbggaaGreatDoor

namespace Go.Proofs.YthoodjjjklbggaaGreatDoor
open Go.RowKit Go.Sort

/-- a player's wins as a natural number -/
def winsN (xs : List Int) (a : Nat) : Nat := (xs.getD a 0).toNat
theorem tour_wins {s : Int} {xs : List Int} (h : tourP s xs) {a : Nat} (ha : a < xs.length) : xs.getD a 0 = (winsN xs a : Int) ∧ winsN xs a < 2 ^ s.toNat ∧ winsN xs a < 256 := by
  have hm : xs.getD a 0 ∈ xs := by
    rw [List.getD_eq_getElem?_getD, List.getElem?_eq_getElem ha]; exact List.getElem_mem _
  have hx := h.2.2.1 _ hm
  have hp := pow_small s (by have := h.1; omega)
  have h2 : ((2 : Int) ^ s.toNat) = ((2 ^ s.toNat : Nat) : Int) := by simp
  unfold winsN
  rw [h2] at hp hx
  omega
noncomputable def scI (s : Int) (xs : List Int) (a : Int) : Int := if (tourB s xs && inB a 0 (s - 1)) = true then (popN 8 (winsN xs a.toNat) : Int) else -1
set_option maxHeartbeats 400000 in
theorem score_any (s : Int) (sl : Value) (xs : List Int) (a : Nat) (w : World) (h : Rd w sl xs) (hp : tourP s xs) (ha : a < xs.length) :
    Calls Tryz.prog 26 #[.agg #[.int .i64 s, sl], .int .i64 a] w fun e w' => e = .returned (.int .i64 (popN 8 (winsN xs a) : Nat)) ∧ Below w.heap.size w w' := by
  obtain ⟨A, c, rfl, -, hm, hc⟩ := h
  unfold maxLen at hm
  have hw := tour_wins hp ha
  have hl8 : xs.length ≤ 8 := by have := hp.1; have := hp.2.1; omega
  obtain ⟨g, off, rfl, hg, hx⟩ := hc (by omega)
  have hxa := hx a ha
  rw [hw.1] at hxa
  generalize winsN xs a = x at *
  have h256 := hw.2.2
  have X0 := TBox.new w s (.slice (some ⟨g, off, none⟩) xs.length c) 25
  have b0 := below_alloc1 w (.cells #[.int .i64 s, .slice (some ⟨g, off, none⟩) xs.length c] 25)
  have hxa' := (b0.cell (by exact hg)).trans hxa
  have B0 := Lib.hid b0
  have y1 := X0.2
  clear hx hxa hw b0 X0 hp hc
  go_enter Tryz.func26, Tryz.ntmps26
  go_wp2_with (go_at_call 31; refine (ones_any x _ h256).mono ?_; rintro e w1 ⟨rfl, rfl⟩)
  go_ret
  exact ⟨rfl, B0.out⟩
end Go.Proofs.YthoodjjjklbggaaGreatDoor

namespace Go.Proofs.YthoodjjjklbggaaGreatDoor
open Go.RowKit

theorem grown_of_alloc {w w' : World} {o : Obj} {row : Option Nat} (h : (w.alloc o).grownBy w' row) : w.grownBy w' row :=
  ⟨h.os, h.tape, h.output, Nat.le_trans (by simp) h.size, fun k hk hne => (h.block k (by simp; omega) hne).trans (Below.heap_alloc w o k hk)⟩

theorem wp_append1 {ops : Array Oper} {rest : List Oper} {o : Oper} {a : Act} {Q : Exit → Act → World → Prop} (w : World) (hgd : o.guard = none) (s x : Operand)
    (ho : o.op = .call { callee := .builtin .append, args := #[s, x], argTypes := #[23, 23] })
    (base : Nat) (v : Value) (xs : List Int) (y : Int) (hs : a.eval s = v) (hown : Own w base v xs) (hx : a.eval x = .slice (some ⟨w.heap.size, 0, none⟩) 1 1)
    (hlen : xs.length ≤ 1099511627776) (hbase : base ≤ w.heap.size)
    (h : ∀ v' w', Own w' base v' (xs ++ [y]) → w.grownBy w' v.ownBlock → wpList Tryz.prog ops Q rest (a.put o.dst v') w') :
    wpList Tryz.prog ops Q (o :: rest) a (w.alloc (.cells #[.int .i64 y] 3)) := by
  obtain ⟨i0, hi, hz0, hz1, hz2⟩ := info_parts i64_info
  have hown' : (w.alloc (.cells #[.int .i64 y] 3)).ownsRow base 3 1 v xs.length (xs.map (Value.int .i64)) := World.ownsRow.alloc hown _
  refine wpList_append_own _ hgd s x 23 ho base 3 i0 (.int .i64 0) 1 8 Tryz.underlying23 hi hz0 hz1 hz2 rfl (by decide) v xs.length (xs.map (Value.int .i64)) hs hown' ⟨w.heap.size, 0, none⟩ 1 1 [.int .i64 y] hx rfl ?_ ?_ ?_ ?_ ?_ ?_
  · intro j u hj
    match j, hj with
    | 0, hj => simp at hj; subst hj; simp [Addr.add]
  · intro u hu; simp at hu; subst hu; rfl
  · unfold maxLen; omega
  · omega
  · simp; omega
  · intro v' w' h1 h2 _
    refine h v' w' ?_ (grown_of_alloc h2)
    unfold Own
    rw [List.length_append, List.map_append]
    exact h1

theorem below_append {B : Nat} {a w w' : World} {base : Nat} {v : Value} {xs : List Int} (h : Below B a w) (hg : w.grownBy w' v.ownBlock) (hown : Own w base v xs) (hB : B ≤ base) (hbase : base ≤ w.heap.size) : Below B a w' :=
  h.grown hg (by omega) fun k hk => by have := (hown.lt k hk).1; omega
/-- a new block whose cells are these numbers -/
theorem Own.lit (w : World) (base : Nat) (xs : List Int) (hb : base ≤ w.heap.size) (hl : xs.length ≤ 1099511627776) : Own (w.alloc (.cells (xs.map (Value.int .i64)).toArray 3)) base (.slice (some ⟨w.heap.size, 0, none⟩) xs.length xs.length) xs := by
  have := World.ownsRow_lit (e := 3) (size := 1) w (xs.map (Value.int .i64)).toArray xs.length hb (by unfold maxLen; omega) (by simp)
  simpa [Own] using this
theorem Own.nil_ (w : World) (base : Nat) : Own w base (.slice none 0 0) [] := World.ownsRow_nil _ _ _ _
end Go.Proofs.YthoodjjjklbggaaGreatDoor

namespace Go.Proofs.YthoodjjjklbggaaGreatDoor
open Go.RowKit Go.Sort

/-- the elements below k of a set, in ascending order -/
def memN (S k : Nat) : List Nat := (List.range k).filter fun a => S.testBit a
def memL (S k : Nat) : List Int := (memN S k).map fun (a : Nat) => (a : Int)
theorem memN_succ (S k : Nat) : memN S (k + 1) = memN S k ++ if S.testBit k then [k] else [] := by
  unfold memN
  rw [List.range_succ, List.filter_append]
  congr 1
  rcases h : S.testBit k with _ | _ <;> simp [h]
theorem memL_yes {S k : Nat} (h : S.testBit k = true) : memL S (k + 1) = memL S k ++ [(k : Int)] := by unfold memL; rw [memN_succ, h]; simp
theorem memL_no {S k : Nat} (h : S.testBit k = false) : memL S (k + 1) = memL S k := by unfold memL; rw [memN_succ, h]; simp
theorem memN_len (S k : Nat) : (memN S k).length ≤ k := by
  unfold memN
  refine Nat.le_trans (List.length_filter_le _ _) ?_
  rw [List.length_range]; exact Nat.le_refl _
theorem memL_len (S k : Nat) : (memL S k).length ≤ k := by unfold memL; rw [List.length_map]; exact memN_len S k
theorem memN_top {S k n : Nat} (hk : k ≤ n) (h : S / 2 ^ k = 0) : memN S n = memN S k := by
  obtain ⟨d, rfl⟩ := Nat.exists_eq_add_of_le hk
  clear hk
  induction d with
  | zero => rfl
  | succ d ih =>
    have : S.testBit (k + d) = false := by
      have h1 : S < 2 ^ k := by
        rcases Nat.lt_or_ge S (2 ^ k) with h1 | h1
        · exact h1
        · have := Nat.div_pos h1 (Nat.two_pow_pos k); omega
      exact Nat.testBit_lt_two_pow (Nat.lt_of_lt_of_le h1 (Nat.pow_le_pow_right (by decide) (by omega)))
    rw [← Nat.add_assoc, memN_succ, this, ih]; simp
theorem mem_memN {S k a : Nat} : a ∈ memN S k ↔ a < k ∧ S.testBit a = true := by simp [memN]
theorem memL_at {S k j : Nat} (h : j < (memN S k).length) : (memL S k).getD j 0 = ((memN S k)[j] : Int) := by simp [memL, h]
theorem memN_at {S k j : Nat} (h : j < (memN S k).length) : (memN S k)[j] < k ∧ S.testBit (memN S k)[j] = true := mem_memN.1 (List.getElem_mem h)
set_option maxHeartbeats 1000000 in
theorem membersOf_any (S n : Nat) (w : World) (hS : S < 2 ^ n) (hn : n ≤ 60) :
    Calls Tryz.prog 66 #[.int .i64 S] w fun e w' => ∃ v', e = .returned v' ∧ Own w' w.heap.size v' (memL S n) ∧ Below w.heap.size w w' := by
  have hp : 2 ^ n ≤ 2 ^ 60 := Nat.pow_le_pow_right (by decide) hn
  rw [show (2 : Nat) ^ 60 = 1152921504606846976 from by decide] at hp
  have HS := Lib.hid hS
  have hS63 : S < 1152921504606846976 := by omega
  clear hp hS
  go_enter Tryz.func66, Tryz.ntmps66
  go_wp2
  go_loopw [3, 4] (fun v i wr => ∃ k : Nat, k ≤ n ∧ i = .int .i64 k ∧ Own wr w.heap.size v (memL S k) ∧ Below w.heap.size w wr) (fun _ i _ => n - (intOf i).toNat)
  case atStart => exact ⟨0, by omega, rfl, by simpa [memL, memN] using Own.nil_ w w.heap.size, Below.refl _ _⟩
  case round =>
    obtain ⟨k, hk, rfl, hown, hb⟩ := hrel
    have hlen := memL_len S k
    rcases hz : decide (0 < (S : Int) / 2 ^ k) with _ | _
    · have h0 : S / 2 ^ k = 0 := by
        have := of_decide_eq_false hz
        have h2 : ((S : Int) / 2 ^ k) = ((S / 2 ^ k : Nat) : Int) := by simp
        rw [h2] at this
        generalize S / 2 ^ k = d at *
        omega
      have HT : Hid (memL S n = memL S k) := by unfold Hid memL; rw [memN_top hk h0]
      clear h0
      go_wp2
      go_ret
      exact ⟨_, rfl, by rw [HT.out]; exact hown, hb⟩
    · have h0 : 0 < S / 2 ^ k := by
        have := of_decide_eq_true hz
        have h2 : ((S : Int) / 2 ^ k) = ((S / 2 ^ k : Nat) : Int) := by simp
        rw [h2] at this
        generalize S / 2 ^ k = d at *
        omega
      have hkn : k < n := by
        rcases Nat.lt_or_ge k n with h | h
        · exact h
        · have : S / 2 ^ k = 0 := Nat.div_eq_of_lt (Nat.lt_of_lt_of_le HS.out (Nat.pow_le_pow_right (by decide) h))
          omega
      clear h0
      have hbit := bit_test S k
      rcases hB : S.testBit k with _ | _
      · rw [hB] at hbit
        have HM := Lib.hid (memL_no hB)
        go_wp2
        go_roundw
        case rel => exact ⟨k + 1, by omega, by go_num, by rw [HM.out]; exact hown, hb⟩
        case measure => simp [intOf]; omega
      · rw [hB] at hbit
        have HM := Lib.hid (memL_yes hB)
        have hbs := hb.size
        go_wp2_with (at_builtin; refine wp_append1 _ rfl (.tmp 16) (.tmp 18) rfl w.heap.size _ _ _ rfl hown rfl (by omega) (by omega) ?_; intro v' w1 hown1 hg1)
        have hb1 := below_append hb hg1 hown (Nat.le_refl _) hbs
        go_roundw
        case rel => exact ⟨k + 1, by omega, by go_num, by rw [HM.out]; exact hown1, hb1⟩
        case measure => simp [intOf]; omega
end Go.Proofs.YthoodjjjklbggaaGreatDoor

namespace Go.Proofs.YthoodjjjklbggaaGreatDoor
open Go.RowKit Go.Sort

/-- a set with all that the listed beat -/
def orK (xs : List Int) (l : List Nat) (S : Nat) : Nat := l.foldl (fun s b => s ||| winsN xs b) S
theorem orK_snoc (xs : List Int) (l : List Nat) (b S : Nat) : orK xs (l ++ [b]) S = orK xs l S ||| winsN xs b := by simp [orK]
def nearN (xs : List Int) (a : Nat) : Nat := orK xs (memN (winsN xs a) 8) (winsN xs a ||| 2 ^ a)
def kingN (xs : List Int) (a : Nat) : Bool := nearN xs a == 2 ^ xs.length - 1
noncomputable def kingB (s : Int) (xs : List Int) (a : Int) : Bool := tourB s xs && (inB a 0 (s - 1) && kingN xs a.toNat)
theorem or_lt8 {a b : Nat} (ha : a < 256) (hb : b < 256) : a ||| b < 256 := Nat.or_lt_two_pow (n := 8) ha hb
theorem pow_lt8 {a : Nat} (h : a < 8) : 2 ^ a < 256 := Nat.pow_lt_pow_right (n := 8) (by decide) h
theorem take_snocN {l : List Nat} {k : Nat} (hk : k < l.length) : l.take (k + 1) = l.take k ++ [l[k]] := List.take_succ_eq_append_getElem hk
theorem orK_lt {s : Int} {xs : List Int} (hp : tourP s xs) {l : List Nat} (hl : ∀ b ∈ l, b < xs.length) {S : Nat} (hS : S < 256) : orK xs l S < 256 := by
  induction l generalizing S with
  | nil => exact hS
  | cons b l ih =>
    unfold orK
    rw [List.foldl_cons]
    exact ih (fun c hc => hl c (by simp [hc])) (or_lt8 hS (tour_wins hp (hl b (by simp))).2.2)
/-- the players whom a player beats are players -/
theorem wins_mem {s : Int} {xs : List Int} (hp : tourP s xs) {a : Nat} (ha : a < xs.length) : ∀ b ∈ memN (winsN xs a) 8, b < xs.length := by
  intro b hb
  have hw := (tour_wins hp ha).2.1
  have hbit := (mem_memN.1 hb).2
  rcases Nat.lt_or_ge b xs.length with h | h
  · exact h
  · have hs := hp.2.1
    rw [Nat.testBit_lt_two_pow (Nat.lt_of_lt_of_le hw (Nat.pow_le_pow_right (by decide) (by omega)))] at hbit
    cases hbit
/-- the cells of a tour as natural numbers -/
theorem tour_cells {w : World} {sl : Value} {s : Int} {xs : List Int} (h : Rd w sl xs) (hp : tourP s xs) :
    ∃ g off c, sl = .slice (some ⟨g, off, none⟩) xs.length c ∧ c ≤ maxLen ∧ g < w.heap.size ∧ ∀ j, j < xs.length → w.cell? ⟨g, off + j, none⟩ = some (.int .i64 (winsN xs j)) := by
  obtain ⟨A, c, rfl, -, hm, hc⟩ := h
  obtain ⟨g, off, rfl, hg, hx⟩ := hc (by have := hp.1; have := hp.2.1; omega)
  exact ⟨g, off, c, rfl, hm, hg, fun j hj => by rw [hx j hj, (tour_wins hp hj).1]⟩
theorem or_shl' (S a : Nat) (hS : S < 4611686018427387904) (h : a ≤ 61) : bits .or .i64 (wrap64 (2 ^ a)) (S : Int) = ((S ||| 2 ^ a : Nat) : Int) := by
  rw [shl_nat a h, i64_or_nat _ _ (pow_lt63 h) (by omega), Nat.or_comm]
theorem getD_nat {l : List Nat} {j : Nat} (h : j < l.length) : l.getD j 0 = l[j] := by simp [h]
/-- the cells of a list of players -/
theorem memL_cells {w : World} {v : Value} {base S k : Nat} (h : Own w base v (memL S k)) : ∃ A c, v = .slice A (memN S k).length c ∧ c ≤ maxLen ∧ (memN S k).length ≤ c ∧
    (0 < (memN S k).length → ∃ g off, A = some ⟨g, off, none⟩ ∧ g < w.heap.size ∧ ∀ j, j < (memN S k).length → w.cell? ⟨g, off + j, none⟩ = some (.int .i64 ((memN S k).getD j 0 : Nat))) := by
  obtain ⟨A, c, rfl, hl, hm, hc⟩ := h.rd
  have e : (memL S k).length = (memN S k).length := by simp [memL]
  rw [e] at hl hc
  refine ⟨A, c, by rw [e], hm, hl, fun h0 => ?_⟩
  obtain ⟨g, off, rfl, hg, hx⟩ := hc h0
  exact ⟨g, off, rfl, hg, fun j hj => by rw [hx j hj, memL_at hj, getD_nat hj]⟩
end Go.Proofs.YthoodjjjklbggaaGreatDoor

namespace Go.Proofs.YthoodjjjklbggaaGreatDoor
open Go.RowKit Go.Sort

/-- who of two is gone to from a -/
def stepF (xs : List Int) (a best b : Nat) : Nat := if best = a ∨ popN 8 (winsN xs best) < popN 8 (winsN xs b) then b else best
def loseN (xs : List Int) (a n : Nat) : List Nat := (List.range n).filter fun b => bitI (xs.getD b 0) a
def kstK (xs : List Int) (a : Nat) (l : List Nat) : Nat := l.foldl (stepF xs a) a
def kstepN (xs : List Int) (a : Nat) : Nat := kstK xs a (loseN xs a xs.length)
noncomputable def kstepI (s : Int) (xs : List Int) (a : Int) : Int := if (tourB s xs && inB a 0 (s - 1)) = true then (kstepN xs a.toNat : Int) else -1
theorem kstK_snoc (xs : List Int) (a : Nat) (l : List Nat) (b : Nat) : kstK xs a (l ++ [b]) = stepF xs a (kstK xs a l) b := by simp [kstK]
theorem loseN_succ (xs : List Int) (a k : Nat) : loseN xs a (k + 1) = loseN xs a k ++ if bitI (xs.getD k 0) a then [k] else [] := by
  unfold loseN
  rw [List.range_succ, List.filter_append]
  congr 1
  rcases h : bitI (xs.getD k 0) a with _ | _ <;> simp [-List.getD_eq_getElem?_getD, h]
theorem stepF_mem (xs : List Int) (a best b : Nat) : stepF xs a best b = b ∨ stepF xs a best b = best := by unfold stepF; split <;> simp
theorem kstK_mem {xs : List Int} {a n : Nat} (ha : a < n) {l : List Nat} (hl : ∀ b ∈ l, b < n) : kstK xs a l < n := by
  have : ∀ (l : List Nat) (m : Nat), m < n → (∀ b ∈ l, b < n) → l.foldl (stepF xs a) m < n := by
    intro l
    induction l with
    | nil => intro m hm _; exact hm
    | cons b l ih =>
      intro m hm hl
      rw [List.foldl_cons]
      refine ih _ ?_ fun c hc => hl c (by simp [hc])
      rcases stepF_mem xs a m b with e | e
      · rw [e]; exact hl b (by simp)
      · rw [e]; exact hm
  exact this l a ha hl
theorem bit_nat {s : Int} {xs : List Int} (hp : tourP s xs) {a b : Nat} (ha : a < xs.length) : bitI (xs.getD a 0) b = (winsN xs a).testBit b := by
  rw [testBit_iff, ← (tour_wins hp ha).1]; rfl
/-- the set of those who beat a player -/
def lossN (xs : List Int) (a : Nat) : Nat := less (less (2 ^ xs.length - 1) (winsN xs a)) (2 ^ a)
theorem loss_list {s : Int} {xs : List Int} (hp : tourP s xs) {a : Nat} (ha : a < xs.length) : memN (lossN xs a) xs.length = loseN xs a xs.length := by
  unfold memN loseN
  refine List.filter_congr fun b hb => ?_
  have hb := List.mem_range.1 hb
  unfold lossN
  rw [testBit_less, testBit_less, testBit_full, Nat.testBit_two_pow, ← bit_nat hp ha]
  have hT := hp.2.2.2
  simp only [hb, decide_true, Bool.true_and]
  rcases Nat.lt_trichotomy a b with h | h | h
  · have h1 := (hT b hb).2 a h
    have e : decide (a = b) = false := by simp; omega
    rw [e]
    rcases h2 : bitI (xs.getD a 0) b with _ | _ <;> rcases h3 : bitI (xs.getD b 0) a with _ | _ <;> rw [h2, h3] at h1 <;> first | rfl | exact absurd rfl h1
  · subst h
    rw [(hT a ha).1]; simp
  · have h1 := (hT a ha).2 b h
    have e : decide (a = b) = false := by simp; omega
    rw [e]
    rcases h2 : bitI (xs.getD a 0) b with _ | _ <;> rcases h3 : bitI (xs.getD b 0) a with _ | _ <;> rw [h2, h3] at h1 <;> first | rfl | exact absurd rfl h1
theorem less_full_lt' (n S : Nat) : less (2 ^ n - 1) S < 2 ^ n := less_lt (by have := Nat.two_pow_pos n; omega)
theorem full_less {n W : Nat} (hW : W < 2 ^ n) : 2 ^ n - 1 - W = less (2 ^ n - 1) W := by
  have e : 2 ^ n - 1 - W = 2 ^ n - (W + 1) := by omega
  rw [e]
  apply Nat.eq_of_testBit_eq
  intro i
  rw [Nat.testBit_two_pow_sub_succ hW, testBit_less, testBit_full]
theorem loss_val {n W a : Nat} (hn : n ≤ 8) (hW : W < 2 ^ n) (ha : a < n) (hself : W.testBit a = false) :
    wrap64 (wrap64 (wrap64 (wrap64 (2 ^ n) - 1) - (W : Int)) - wrap64 (2 ^ a)) = ((less (less (2 ^ n - 1) W) (2 ^ a) : Nat) : Int) := by
  have hp8 := pow_le hn
  have hbit : (less (2 ^ n - 1) W).testBit a = true := by rw [testBit_less, testBit_full, hself]; simp [ha]
  have hlt : less (2 ^ n - 1) W < 256 := Nat.lt_of_lt_of_le (less_full_lt' n W) hp8
  have hge := Nat.ge_two_pow_of_testBit hbit
  have h3 := sub_less (Nat.lt_trans hlt (by decide)) (by omega) hbit
  have hpn : 1 ≤ 2 ^ n := Nat.one_le_two_pow
  rw [full_nat n hn, shl_nat a (by omega), ← Int.natCast_sub (by omega : W ≤ 2 ^ n - 1), full_less hW]
  rw [wrap64_nat _ (Nat.lt_trans hlt (by decide)), ← Int.natCast_sub hge, h3]
  exact wrap64_nat _ (Nat.lt_trans (less_lt (n := 8) hlt) (by decide))
set_option maxHeartbeats 1000000 in
theorem losses_any (s : Int) (sl : Value) (xs : List Int) (a : Nat) (w : World) (h : Rd w sl xs) (hp : tourP s xs) (ha : a < xs.length) :
    Calls Tryz.prog 80 #[.agg #[.int .i64 s, sl], .int .i64 a] w fun e w' => e = .returned (.int .i64 (lossN xs a : Nat)) ∧ Below w.heap.size w w' := by
  obtain ⟨g, off, c, rfl, hm, hg, hx⟩ := tour_cells h hp
  unfold maxLen at hm
  have hs := hp.1
  have hsl := hp.2.1
  have hw := (tour_wins hp ha).2.1
  have hself : (winsN xs a).testBit a = false := by rw [← bit_nat hp ha]; exact (hp.2.2.2 a ha).1
  have hxa := hx a ha
  have hL : Hid (lossN xs a = less (less (2 ^ xs.length - 1) (winsN xs a)) (2 ^ a)) := rfl
  clear hp h hx
  generalize hn : xs.length = n at *
  obtain rfl : s = n := by omega
  rw [show ((n : Int)).toNat = n from rfl] at hw
  generalize winsN xs a = W at *
  go_enter Tryz.func80, Tryz.ntmps80
  go_wp2_with fail
  have b0 := below_alloc1 w (.cells #[.int .i64 n, .slice (some ⟨g, off, none⟩) n c] 25)
  have x0 := TBox.new w n (.slice (some ⟨g, off, none⟩) n c) 25
  generalize w.alloc (.cells #[.int .i64 n, .slice (some ⟨g, off, none⟩) n c] 25) = w0 at *
  have HX0 := Lib.hid x0
  have HB0 := Lib.hid b0
  clear x0 b0
  have y0_0 := HX0.out.1
  have y1_0 := HX0.out.2
  have c0 := cell_regrown ((HB0.out.cell (by exact hg)).trans hxa)
  have y0_q := cell_regrown y0_0
  have y1_q := cell_regrown y1_0
  clear y0_0 y1_0
  refine wp_region_below (by kernel_rfl) (by kernel_rfl) ?_
  repeat (go_big_quiet_step (first | (with_reducible fail)))
  refine wpQuiet_nil ?_
  intro wq hbq0
  have hbq := Lib.hid hbq0
  clear hbq0
  clear y0_q y1_q
  go_wp2
  go_ret
  refine ⟨ret_int ?_, Below.then HB0.out hbq.out⟩
  rw [hL.out]
  exact loss_val (by omega) hw ha hself
end Go.Proofs.YthoodjjjklbggaaGreatDoor

namespace Go.Proofs.YthoodjjjklbggaaGreatDoor
open Go.RowKit Go.Sort

theorem Own.at1 {w : World} {base g n c : Nat} {xs : List Int} (h : Own w base (.slice (some ⟨g, 0, none⟩) n c) xs) (hl : xs.length = n) (h0 : 0 < n) :
    (∀ k, k < n → w.cell? ⟨g, k, none⟩ = some (.int .i64 (xs.getD k 0))) ∧ ∀ k, w.frozen? ⟨g, k, none⟩ = false := by
  obtain ⟨g', c', e, -, -, -, hx, hf⟩ := h.at_ hl h0
  injection e with e _ _
  injection e with e
  injection e with e _ _
  subst e
  exact ⟨hx, hf⟩
theorem getD_set_other {xs : List Int} {a b : Nat} (v : Int) (h : a ≠ b) : (xs.set a v).getD b 0 = xs.getD b 0 := by
  simp [List.getD_eq_getElem?_getD, h]
theorem getD_set_same {xs : List Int} {a : Nat} (v : Int) (h : a < xs.length) : (xs.set a v).getD a 0 = v := by
  simp [List.getD_eq_getElem?_getD, h]
/-- a list that is told place by place -/
theorem list_ext0 {N M : List Int} {n : Nat} (h1 : N.length = n) (h2 : M.length = n) (h : ∀ i, i < n → N.getD i 0 = M.getD i 0) : N = M := by
  refine List.ext_getElem (by omega) fun i h3 h4 => ?_
  have := h i (by omega)
  simpa [h3, h4] using this
end Go.Proofs.YthoodjjjklbggaaGreatDoor

namespace Go.Proofs.YthoodjjjklbggaaGreatDoor
open Go.RowKit Go.Sort
set_option maxRecDepth 100000
theorem rows_info : (Tryz.prog.info? 23).map (fun i => (i.zero, i.size, i.bytes)) = some (some (.slice none 0 0), 1, 24) := by kernel_rfl
theorem ownsRow_below {w w' : World} {base size n : Nat} {e : TypeId} {v : Value} {xs : List Value} (h : w.ownsRow base e size v n xs) (hb : Below w.heap.size w w') : w'.ownsRow base e size v n xs := by
  refine ⟨h.1, ?_⟩
  rcases h.2 with h0 | ⟨g, cap, cur, hv, hg, hh, r⟩
  · exact .inl h0
  · exact .inr ⟨g, cap, cur, hv, hg, by rw [hb.block g (Array.getElem?_eq_some_iff.1 hh).1]; exact hh, r⟩
theorem ownsRow_mono {w : World} {base b' size n : Nat} {e : TypeId} {v : Value} {xs : List Value} (h : w.ownsRow base e size v n xs) (hb : b' ≤ base) : w.ownsRow b' e size v n xs := by
  refine ⟨h.1, ?_⟩
  rcases h.2 with h0 | ⟨g, cap, cur, hv, hg, r⟩
  · exact .inl h0
  · exact .inr ⟨g, cap, cur, hv, by omega, r⟩
/-- rows of different element types lie in different blocks -/
theorem types_part {w : World} {b1 b2 s1 s2 n1 n2 : Nat} {e1 e2 : TypeId} {v1 v2 : Value} {x1 x2 : List Value} (h1 : w.ownsRow b1 e1 s1 v1 n1 x1) (h2 : w.ownsRow b2 e2 s2 v2 n2 x2) (hne : e1 ≠ e2) : v1.ownBlock = none ∨ v1.ownBlock ≠ v2.ownBlock := by
  rcases h1.2 with ⟨rfl, _⟩ | ⟨g1, c1, cur1, rfl, _, hg1, _⟩
  · exact .inl rfl
  · right
    rcases h2.2 with ⟨rfl, _⟩ | ⟨g2, c2, cur2, rfl, _, hg2, _⟩
    · simp [Value.ownBlock]
    · intro e
      simp only [Value.ownBlock, Option.some.injEq] at e
      subst e
      rw [hg1] at hg2
      simp only [Option.some.injEq, Obj.cells.injEq] at hg2
      exact hne hg2.2.1
theorem apart_symm' {a b : Option Nat} (h : a = none ∨ a ≠ b) : b = none ∨ b ≠ a := by
  rcases h with h | h
  · subst h; cases b <;> simp
  · exact .inr (Ne.symm h)
def OwnRowsU (w : World) (base : Nat) (v : Value) (us : List Value) (rows : List (List Int)) : Prop :=
  us.length = rows.length ∧ w.ownsRow base 23 1 v rows.length us ∧ (∀ k, k < rows.length → Own w base (us.getD k (.slice none 0 0)) (rows.getD k [])) ∧
    ∀ i j, i < j → j < rows.length → (us.getD i (.slice none 0 0)).ownBlock = none ∨ (us.getD i (.slice none 0 0)).ownBlock ≠ (us.getD j (.slice none 0 0)).ownBlock
def OwnRows (w : World) (base : Nat) (v : Value) (rows : List (List Int)) : Prop := ∃ us : List Value, OwnRowsU w base v us rows
theorem OwnRows.nil_ (w : World) (base : Nat) : OwnRows w base (.slice none 0 0) [] := ⟨[], rfl, World.ownsRow_nil _ _ _ _, fun k h => absurd h (by simp), fun i j _ h => absurd h (by simp)⟩
theorem OwnRows.lit0 (w : World) (base : Nat) (hb : base ≤ w.heap.size) : OwnRows (w.alloc (.cells #[] 23)) base (.slice (some ⟨w.heap.size, 0, none⟩) 0 0) [] := by
  have := World.ownsRow_lit (e := 23) (size := 1) w #[] 0 hb (by unfold maxLen; omega) (by simp)
  exact ⟨[], rfl, by simpa using this, fun k h => absurd h (by simp), fun i j _ h => absurd h (by simp)⟩
theorem OwnRowsU.below {w w' : World} {base : Nat} {v : Value} {us : List Value} {rows : List (List Int)} (h : OwnRowsU w base v us rows) (hb : Below w.heap.size w w') : OwnRowsU w' base v us rows := by
  obtain ⟨hl, ho, hr, hd⟩ := h
  exact ⟨hl, ownsRow_below ho hb, fun k hk => (hr k hk).below hb, hd⟩
theorem OwnRows.below {w w' : World} {base : Nat} {v : Value} {rows : List (List Int)} (h : OwnRows w base v rows) (hb : Below w.heap.size w w') : OwnRows w' base v rows := by
  obtain ⟨us, h⟩ := h
  exact ⟨us, h.below hb⟩
theorem OwnRows.mono {w : World} {base b' : Nat} {v : Value} {rows : List (List Int)} (h : OwnRows w base v rows) (hb : b' ≤ base) : OwnRows w b' v rows := by
  obtain ⟨us, hl, ho, hr, hd⟩ := h
  exact ⟨us, hl, ownsRow_mono ho hb, fun k hk => (hr k hk).mono hb, hd⟩
/-- a change of one block that is not among these rows: one that is older than all of them -/
theorem OwnRows.kept_lo {w w' : World} {base : Nat} {v : Value} {rows : List (List Int)} (h : OwnRows w base v rows) {row : Option Nat} (hg : w.grownBy w' row) (hlt : ∀ g, row = some g → g < base) : OwnRows w' base v rows := by
  obtain ⟨us, hl, ho, hr, hd⟩ := h
  have key : ∀ {u : Value}, (∀ k, u.ownBlock = some k → base ≤ k ∧ k < w.heap.size) → u.ownBlock = none ∨ u.ownBlock ≠ row := by
    intro u hu
    rcases q : u.ownBlock with _ | k
    · exact .inl rfl
    · right
      intro e
      have := (hu k q).1
      have := hlt k e.symm
      omega
  exact ⟨us, hl, World.ownsRow.kept ho hg (key (World.ownsRow.lt ho)), fun k hk => (hr k hk).kept hg (key (hr k hk).lt), hd⟩
theorem OwnRows.lt {w : World} {base : Nat} {v : Value} {rows : List (List Int)} (h : OwnRows w base v rows) : ∀ k, v.ownBlock = some k → base ≤ k ∧ k < w.heap.size := by
  obtain ⟨us, hl, ho, hr, hd⟩ := h
  exact World.ownsRow.lt ho
/-- a row is changed in place -/
theorem OwnRowsU.row {w w' : World} {base : Nat} {v : Value} {us : List Value} {rows : List (List Int)} (h : OwnRowsU w base v us rows) {i : Nat} {ys : List Int} (hi : i < rows.length)
    (ho' : Own w' base (us.getD i (.slice none 0 0)) ys) (hg : w.grownBy w' (us.getD i (.slice none 0 0)).ownBlock) : OwnRowsU w' base v us (rows.set i ys) := by
  obtain ⟨hl, ho, hr, hd⟩ := h
  refine ⟨by simp [hl], ?_, fun k hk => ?_, fun a b hab hb => hd a b hab (by simpa using hb)⟩
  · rw [List.length_set]
    exact World.ownsRow.kept ho hg (apart_symm' (types_part (hr i hi) ho (by decide)))
  · rw [List.length_set] at hk
    by_cases hik : i = k
    · subst hik
      rw [show (rows.set i ys).getD i [] = ys by simp [List.getD_eq_getElem?_getD, hk]]
      exact ho'
    · rw [show (rows.set i ys).getD k [] = rows.getD k [] by simp [List.getD_eq_getElem?_getD, List.getElem?_set_ne hik]]
      refine (hr k hk).kept hg ?_
      rcases Nat.lt_or_gt_of_ne hik with h1 | h1
      · exact apart_symm' (hd i k h1 hk)
      · exact hd k i h1 hi
theorem OwnRows.form {w : World} {base : Nat} {v : Value} {rows : List (List Int)} (h : OwnRows w base v rows) : ∃ A c, v = .slice A rows.length c ∧ c ≤ maxLen ∧ rows.length ≤ c ∧
    (0 < rows.length → ∃ g, A = some ⟨g, 0, none⟩ ∧ g < w.heap.size ∧ ∀ k, k < rows.length → ∃ (B : Option Addr) (d : Nat), w.cell? ⟨g, k, none⟩ = some (.slice B (rows.getD k []).length d) ∧ Own w base (.slice B (rows.getD k []).length d) (rows.getD k [])) := by
  obtain ⟨us, hl, ho, hr, -⟩ := h
  have hlt := World.ownsRow.lt ho
  have hc := fun g hg => World.ownsRow.cells ho (g := g) hg
  rcases ho.2 with ⟨rfl, e⟩ | ⟨g, cap, cur, rfl, hb, hg, hle, hm, _⟩
  · exact ⟨none, 0, by rw [e], by unfold maxLen; omega, by omega, fun h => absurd h (by omega)⟩
  · refine ⟨_, cap, rfl, hm, hle, fun _ => ⟨g, rfl, (hlt g rfl).2, fun k hk => ?_⟩⟩
    have h1 := hc g rfl k (us.getD k (.slice none 0 0)) (by simp [show k < us.length by omega])
    rw [Addr.add_lit, Nat.zero_add] at h1
    have h2 := hr k hk
    obtain ⟨B, d, e, _⟩ := h2.form
    rw [e] at h1 h2
    exact ⟨B, d, h1, h2⟩
def RdRows (w : World) (v : Value) (rows : List (List Int)) : Prop := ∃ A c, v = .slice A rows.length c ∧ c ≤ maxLen ∧ rows.length ≤ c ∧
    (0 < rows.length → ∃ g, A = some ⟨g, 0, none⟩ ∧ g < w.heap.size ∧ ∀ k, k < rows.length → ∃ u, w.cell? ⟨g, k, none⟩ = some u ∧ Rd w u (rows.getD k []))
theorem OwnRows.rdr {w : World} {base : Nat} {v : Value} {rows : List (List Int)} (h : OwnRows w base v rows) : RdRows w v rows := by
  obtain ⟨A, c, rfl, hc, hl, hx⟩ := h.form
  refine ⟨A, c, rfl, hc, hl, fun h0 => ?_⟩
  obtain ⟨g, rfl, hg, hk⟩ := hx h0
  refine ⟨g, rfl, hg, fun k hkl => ?_⟩
  obtain ⟨B, d, h1, h2⟩ := hk k hkl
  exact ⟨_, h1, h2.rd⟩
theorem RdRows.below {w w' : World} {v : Value} {rows : List (List Int)} (h : RdRows w v rows) (hb : Below w.heap.size w w') : RdRows w' v rows := by
  obtain ⟨A, c, rfl, hc, hl, hx⟩ := h
  refine ⟨A, c, rfl, hc, hl, fun h0 => ?_⟩
  obtain ⟨g, rfl, hg, hk⟩ := hx h0
  refine ⟨g, rfl, Nat.lt_of_lt_of_le hg hb.size, fun k hkl => ?_⟩
  obtain ⟨u, h1, h2⟩ := hk k hkl
  exact ⟨u, by rw [hb.cell (p := ⟨g, k, none⟩) hg]; exact h1, h2.below hb⟩
theorem wp_append1V {ops : Array Oper} {rest : List Oper} {o : Oper} {a : Act} {Q : Exit → Act → World → Prop} (w : World) (hgd : o.guard = none) (s x : Operand)
    (ho : o.op = .call { callee := .builtin .append, args := #[s, x], argTypes := #[27, 27] })
    (base : Nat) (v : Value) (rows : List (List Int)) (u : Value) (xs : List Int) (w0 : World) (hs : a.eval s = v) (hown0 : OwnRows w0 base v rows) (hb0 : Below w0.heap.size w0 w) (hu0 : Own w w0.heap.size u xs) (hbase0 : base ≤ w0.heap.size) (hx : a.eval x = .slice (some ⟨w.heap.size, 0, none⟩) 1 1)
    (hlen : rows.length ≤ 1048576)
    (h : ∀ v' w', OwnRows w' base v' (rows ++ [xs]) → w.grownBy w' v.ownBlock → wpList Tryz.prog ops Q rest (a.put o.dst v') w') :
    wpList Tryz.prog ops Q (o :: rest) a (w.alloc (.cells #[u] 23)) := by
  obtain ⟨i0, hi, hz0, hz1, hz2⟩ := info_parts rows_info
  have hu := hu0.mono hbase0
  have hbase : base ≤ w.heap.size := Nat.le_trans hbase0 hb0.size
  obtain ⟨us, hown0⟩ := hown0
  have hlt0 : ∀ k, k < rows.length → ∀ g, (us.getD k (.slice none 0 0)).ownBlock = some g → g < w0.heap.size := fun k hk g hg => ((hown0.2.2.1 k hk).lt g hg).2
  obtain ⟨hl, hor, hr, hd⟩ := hown0.below hb0
  have hor' : (w.alloc (.cells #[u] 23)).ownsRow base 23 1 v rows.length us := World.ownsRow.alloc hor _
  refine wpList_append_own _ hgd s x 27 ho base 23 i0 (.slice none 0 0) 1 24 Tryz.underlying27 hi hz0 hz1 hz2 rfl (by decide) v rows.length us hs hor' ⟨w.heap.size, 0, none⟩ 1 1 [u] hx rfl ?_ ?_ ?_ ?_ ?_ ?_
  · intro j y hj
    match j, hj with
    | 0, hj => simp at hj; subst hj; simp [Addr.add]
  · intro y hy
    simp at hy
    subst hy
    obtain ⟨B, d, e, _⟩ := hu.form
    rw [e]; rfl
  · unfold maxLen; omega
  · omega
  · simp; omega
  · intro v' w' h1 h2 _
    have h2' := grown_of_alloc h2
    have e1 : ∀ k, k < rows.length → (us ++ [u]).getD k (.slice none 0 0) = us.getD k (.slice none 0 0) := fun k hk => by simp [List.getD_eq_getElem?_getD, List.getElem?_append_left (show k < us.length by omega)]
    have e2 : (us ++ [u]).getD rows.length (.slice none 0 0) = u := by simp [List.getD_eq_getElem?_getD, ← hl]
    refine h v' w' ⟨us ++ [u], by simp [hl], by rw [List.length_append]; exact h1, fun k hk => ?_, fun i j hij hj => ?_⟩ h2'
    · rw [List.length_append, List.length_singleton] at hk
      by_cases hk2 : k < rows.length
      · have e3 : (rows ++ [xs]).getD k [] = rows.getD k [] := by simp [List.getD_eq_getElem?_getD, List.getElem?_append_left hk2]
        rw [e1 k hk2, e3]
        exact (hr k hk2).kept h2' (types_part (hr k hk2) hor (by decide))
      · obtain rfl : k = rows.length := by omega
        have e3 : (rows ++ [xs]).getD rows.length [] = xs := by simp [List.getD_eq_getElem?_getD]
        rw [e2, e3]
        exact hu.kept h2' (types_part hu hor (by decide))
    · rw [List.length_append, List.length_singleton] at hj
      rw [e1 i (by omega)]
      by_cases hj2 : j < rows.length
      · rw [e1 j hj2]; exact hd i j hij hj2
      · obtain rfl : j = rows.length := by omega
        rw [e2]
        rcases q : (us.getD i (.slice none 0 0)).ownBlock with _ | g
        · exact .inl rfl
        · right
          intro e
          have := hlt0 i hij g q
          have := (hu0.lt g e.symm).1
          omega
theorem below_appendV {B : Nat} {a w w' : World} {base : Nat} {v : Value} {rows : List (List Int)} (h : Below B a w) (hg : w.grownBy w' v.ownBlock) (hown : OwnRows w base v rows) (hB : B ≤ base) (hbase : base ≤ w.heap.size) : Below B a w' :=
  h.grown hg (Nat.le_trans hB hbase) (fun k hk => Nat.le_trans hB (hown.lt k hk).1)
end Go.Proofs.YthoodjjjklbggaaGreatDoor

namespace Go.Proofs.YthoodjjjklbggaaGreatDoor
open Go.RowKit Go.Sort

/-- what is left behind so many -/
def szI (n : Nat) (left : Int) : Int := if 0 ≤ left - n then left - n else -1
theorem szI_yes {n : Nat} {left : Int} (h : 0 ≤ left - n) : szI n left = left - n := by unfold szI; rw [if_pos h]
theorem szI_no {n : Nat} {left : Int} (h : ¬ 0 ≤ left - n) : szI n left = -1 := by unfold szI; rw [if_neg h]
theorem read_back {w1 : World} {g h : Nat} (hne : h ≠ g) {x y u v z : Value} (c0 : w1.cell? ⟨g, 0, none⟩ = some x) (c1 : w1.cell? ⟨g, 1, none⟩ = some y) :
    (((w1.setCell ⟨h, 1, none⟩ z).setCell ⟨g, 0, none⟩ u).setCell ⟨g, 1, none⟩ v).cell? ⟨g, 0, none⟩ = some u ∧ (((w1.setCell ⟨h, 1, none⟩ z).setCell ⟨g, 0, none⟩ u).setCell ⟨g, 1, none⟩ v).cell? ⟨g, 1, none⟩ = some v := by
  have d0 : (w1.setCell ⟨h, 1, none⟩ z).cell? ⟨g, 0, none⟩ = some x := (World.cell?_setCell_other _ _ _ _ (by simp)).trans c0
  have d1 : (w1.setCell ⟨h, 1, none⟩ z).cell? ⟨g, 1, none⟩ = some y := (World.cell?_setCell_other _ _ _ _ (by simp)).trans c1
  have f0 := World.cell?_setCell_same _ _ u d0
  have f1 : ((w1.setCell ⟨h, 1, none⟩ z).setCell ⟨g, 0, none⟩ u).cell? ⟨g, 1, none⟩ = some y := (World.cell?_setCell_other _ _ _ _ (by simp)).trans d1
  exact ⟨(World.cell?_setCell_other _ _ _ _ (by simp)).trans f0, World.cell?_setCell_same _ _ v f1⟩
theorem setCell_grown (w : World) (p : Addr) (u : Value) : w.grownBy (w.setCell p u) (some p.block) :=
  ⟨rfl, rfl, rfl, by simp [World.setCell], fun k hk hne => Below.heap_setCell _ _ _ _ (fun e => hne (by rw [e]))⟩
theorem own_ne {v : Value} {b g : Nat} (h : ∀ k, v.ownBlock = some k → b ≤ k) (hg : g < b) : v.ownBlock = none ∨ v.ownBlock ≠ some g := by
  rcases e : v.ownBlock with _ | k
  · exact .inl rfl
  · right
    have := h k e
    intro h2
    injection h2
    omega
end Go.Proofs.YthoodjjjklbggaaGreatDoor

