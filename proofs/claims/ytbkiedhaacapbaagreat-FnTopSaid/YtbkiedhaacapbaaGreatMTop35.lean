/- Texts put together: TpL, ShGrow, Conc, Pfaf. -/
import Derived.Test.YtbkiedhaacapbaaGreatMTop34
import Derived.Test.YtbkiedhaacapbaaGreatMTop21
import Derived.Ground.Names8Prog
import Derived.Shelf.Spec.SlicesGrow
import Derived.Test.YtbkiedhaacapbaaGreatMTop01
import Derived.Test.YtbkiedhaacapbaaGreatMTop09
import Derived.Test.YtbkiedhaacapbaaGreatMTop23
import Derived.Test.YtbkiedhaacapbaaGreatMTop05
import Derived.Deep.RegionHeld3
namespace Go.Proofs.YtbkiedhaacapbaaGreat
open Go.RowKit Go.Sort
set_option maxRecDepth 100000
variable {n : Nat} {xs : List Int}
theorem trK_iff {r : Nat → Nat → Bool} {n : Nat} : trK r n = true ↔ ∀ a b c, a < n → b < n → c < n → r a b = true → r b c = true → r a c = true := by
  unfold trK
  simp only [List.all_eq_true, List.mem_range, Bool.or_eq_true, Bool.not_eq_eq_eq_not, Bool.not_true]
  constructor
  · intro h a b c ha hb hc h1 h2
    rcases h a ha b hb with h3 | h3
    · rw [h1] at h3; cases h3
    · rcases h3 c hc with h4 | h4
      · rw [h2] at h4; cases h4
      · exact h4
  · intro h a ha b hb
    rcases q : r a b with _ | _
    · exact .inl rfl
    · right
      intro c hc
      rcases q2 : r b c with _ | _
      · exact .inl rfl
      · exact .inr (h a b c ha hb hc q q2)
theorem scT_sum (r : Nat → Nat → Bool) (n a : Nat) : (scT r n a : Int) = sumN (fun b => if r a b = true then 1 else 0) n := by
  unfold scT
  rw [← map_sumN, ← sum_bool, sum_nat]
  congr 1
  refine List.map_congr_left fun b _ => ?_
  split <;> rfl
/-- one kind, with its names -/
structure KindN (n : Nat) (xs : List Int) (T : Nat) (f : Nat → Nat) : Prop where
  lt : ∀ i, i < n → f i < n
  inj : ∀ i k, i < n → k < n → f i = f k → i = k
  sur : ∀ b, b < n → ∃ k, k < n ∧ f k = b
  bit : ∀ i k, i < n → k < n → bt xs (f i) (f k) = bN T i k
  ok : kdOk T n = true
theorem kind_n (hp : tourP n xs) (h7 : n ≤ 7) : ∃ T f, KindN n xs T f := by
  have h1 : 1 ≤ n := by have := hp.1; omega
  obtain ⟨j, hj, f, f1, f2, f3, f4⟩ := kind_f hp h7
  have := kdOk_all n (by omega) h1
  rw [List.all_eq_true] at this
  exact ⟨rp n j, f, f1, f2, f3, f4, this j (List.mem_range.2 hj)⟩
theorem kn_trans {T : Nat} {f : Nat → Nat} (h : KindN n xs T f) : trK (bN T) n = true ↔ transP xs n := by
  rw [trK_iff]
  constructor
  · intro h1 a b c ha hb hc h2 h3
    obtain ⟨i, hi, rfl⟩ := h.sur a ha
    obtain ⟨j, hj, rfl⟩ := h.sur b hb
    obtain ⟨k, hk, rfl⟩ := h.sur c hc
    rw [h.bit i j hi hj] at h2
    rw [h.bit j k hj hk] at h3
    rw [h.bit i k hi hk]
    exact h1 i j k hi hj hk h2 h3
  · intro h1 i j k hi hj hk h2 h3
    rw [← h.bit i j hi hj] at h2
    rw [← h.bit j k hj hk] at h3
    rw [← h.bit i k hi hk]
    exact h1 _ _ _ (h.lt i hi) (h.lt j hj) (h.lt k hk) h2 h3
theorem kn_score (hp : tourP n xs) {T : Nat} {f : Nat → Nat} (h : KindN n xs T f) {i : Nat} (hi : i < n) : popN 8 (winsN xs (f i)) = scT (bN T) n i := by
  have h1 : scN xs (f i) = (scT (bN T) n i : Int) := by
    rw [sc_sum hp (h.lt i hi), scT_sum, sum_at h.lt h.inj]
    exact sumN_congr fun k hk => by rw [h.bit i k hi hk]
  unfold scN at h1
  omega
theorem kn_sq (hp : tourP n xs) {T : Nat} {f : Nat → Nat} (h : KindN n xs T f) : sqK xs n = sqT (bN T) n := by
  have h1 : (sqK xs n : Int) = (sqT (bN T) n : Int) := by
    unfold sqK sqT
    rw [sum_nat, sum_nat, map_sumN, map_sumN, sum_at h.lt h.inj]
    exact sumN_congr fun k hk => by rw [kn_score hp h hk]
  omega
theorem kn_ct (hp : tourP n xs) {T : Nat} {f : Nat → Nat} (h : KindN n xs T f) : ctK xs n n = (chN n 3 : Int) - (ctT (bN T) n : Int) := by
  unfold ctK ctT
  rw [sum_nat, sum_nat, map_sumN, map_sumN, sum_at h.lt h.inj]
  congr 1
  exact sumN_congr fun k hk => by rw [kn_score hp h hk]
theorem sq_trans (hp : tourP n xs) (h7 : n ≤ 7) : 6 * sqK xs n = n * (n - 1) * (2 * n - 1) ↔ transP xs n := by
  obtain ⟨T, f, h⟩ := kind_n hp h7
  have hk := h.ok
  unfold kdOk at hk
  rw [Bool.and_eq_true, Bool.and_eq_true] at hk
  have h1 := hk.1.1
  rw [beq_iff_eq] at h1
  rw [kn_sq hp h, ← kn_trans h, h1, beq_iff_eq]
theorem ct_trans (hp : tourP n xs) (h7 : n ≤ 7) : ctK xs n n = 0 ↔ transP xs n := by
  obtain ⟨T, f, h⟩ := kind_n hp h7
  have hk := h.ok
  unfold kdOk at hk
  rw [Bool.and_eq_true, Bool.and_eq_true] at hk
  have h1 := hk.1.2
  rw [beq_iff_eq] at h1
  rw [kn_ct hp h, ← kn_trans h, h1, beq_iff_eq]
  omega
theorem two_count {p : List Nat → Bool} {n : Nat} {l k : List Nat} (hl : l ∈ ordL n) (hk : k ∈ ordL n) (hlk : l ≠ k) (h1 : p l = true) (h2 : p k = true) : 2 ≤ (ordL n).countP p := by
  rw [List.countP_eq_length_filter]
  exact len_leG (q := [l, k]) (by simp [hlk]) fun z hz => by
    simp at hz
    rcases hz with rfl | rfl
    · exact List.mem_filter.2 ⟨hl, h1⟩
    · exact List.mem_filter.2 ⟨hk, h2⟩
theorem wyK2_ord {r : Nat → Nat → Bool} {l : List Nat} (h : wyK2 r n l = true) : l ∈ ordL n ∧ way r l = true := by
  unfold wyK2 at h
  simp only [Bool.and_eq_true, beq_iff_eq, List.all_eq_true, decide_eq_true_eq] at h
  exact ⟨mem_ordL.2 ⟨h.1.1.1, h.1.1.2, h.1.2⟩, h.2⟩
/-- one way alone: a transitive tour -/
theorem one_way (hp : tourP n xs) (h7 : n ≤ 7) : wyS xs n n = 1 ↔ transP xs n := by
  refine ⟨fun hw => ?_, fun ht => trans_ways hp ht⟩
  have hn1 : 1 ≤ n := by have := hp.1; omega
  obtain ⟨T, f, h⟩ := kind_n hp h7
  have hk := h.ok
  unfold kdOk at hk
  rw [Bool.and_eq_true, Bool.and_eq_true, Bool.or_eq_true] at hk
  rcases hk.2 with h1 | h1
  · exact (kn_trans h).1 h1
  · exfalso
    rw [Bool.and_eq_true, Bool.and_eq_true] at h1
    obtain ⟨a1, a2⟩ := wyK2_ord h1.1.1
    obtain ⟨b1, b2⟩ := wyK2_ord h1.1.2
    have hne : hpA (bN T) (List.range n) n ≠ hpA (bN T) (List.range n).reverse n := by simpa using h1.2
    generalize hpA (bN T) (List.range n) n = l at *
    generalize hpA (bN T) (List.range n).reverse n = k at *
    obtain ⟨m1, m2⟩ := map_turn h.lt h.inj
    have wl : way (bt xs) (l.map f) = true := by rw [way_map (n := n) (fun a b ha hb => h.bit a b ha hb) (mem_ordL.1 a1).2.1]; exact a2
    have wk : way (bt xs) (k.map f) = true := by rw [way_map (n := n) (fun a b ha hb => h.bit a b ha hb) (mem_ordL.1 b1).2.1]; exact b2
    have := two_count (p := fun l => way (bt xs) l && true) (m1 l a1) (m1 k b1) (fun e => hne (m2 l a1 k b1 e)) (by simp [wl]) (by simp [wk])
    rw [wyS_cnt hn1] at hw
    have hw2 : (ordL n).countP (fun l => way (bt xs) l && true) = 1 := hw
    omega
/-- the greatest transitive set -/
theorem lt_full (xs : List Int) {S : Nat} (hS : trN xs S = true) (hb : ∀ T, T < S → popN 8 T < popN 8 S) : ltK xs (S + 1) = S := by
  rw [ltK]
  split
  · rfl
  · next h =>
    rcases Nat.eq_zero_or_pos S with h0 | h0
    · subst h0; rfl
    · exfalso
      rcases ltK_lt xs S with h1 | h1
      · exact h ⟨hb _ h1, hS⟩
      · exact h ⟨by rw [h1]; exact hb 0 h0, hS⟩
theorem pop_full {n T : Nat} (h8 : n ≤ 8) (hT : T < 2 ^ n - 1) : popN 8 T < popN 8 (2 ^ n - 1) := by
  have hle := pow_le h8
  rw [pop_mem (by omega), pop_mem (by omega)]
  have e1 : memN T 8 = memN T n := memN_top h8 (Nat.div_eq_of_lt (by omega))
  have e2 : memN (2 ^ n - 1) 8 = memN (2 ^ n - 1) n := memN_top h8 (Nat.div_eq_of_lt (full_ltN n))
  rw [e1, e2, full_mem, List.length_range]
  have h1 := memN_len T n
  rcases Nat.lt_or_ge (memN T n).length n with h | h
  · exact h
  · exfalso
    have h3 : (memN T n).Perm (List.range n) := perm_fullG (memN_nodup T n) (fun x hx => List.mem_range.2 (mem_memN.1 hx).1) (by rw [List.length_range]; exact h)
    have : T = 2 ^ n - 1 := Nat.eq_of_testBit_eq fun j => by
      rw [testBit_full]
      by_cases hj : j < n
      · have := (h3.mem_iff (a := j)).2 (List.mem_range.2 hj)
        rw [(mem_memN.1 this).2, decide_eq_true hj]
      · rw [decide_eq_false hj]
        exact Nat.testBit_lt_two_pow (Nat.lt_of_lt_of_le (show T < 2 ^ n by omega) (Nat.pow_le_pow_right (by decide) (by omega)))
    omega
theorem largest_trans (hp : tourP n xs) (h7 : n ≤ 7) : ltK xs (2 ^ n) = 2 ^ n - 1 ↔ transP xs n := by
  have h1 : 1 ≤ n := by have := hp.1; omega
  have h2 : 2 ≤ 2 ^ n := by
    have := Nat.pow_le_pow_right (n := 2) (by decide) h1
    simpa using this
  have e8 : memN (2 ^ n - 1) 8 = List.range n := by rw [memN_top (by omega : n ≤ 8) (Nat.div_eq_of_lt (full_ltN n)), full_mem]
  have hiff : trN xs (2 ^ n - 1) = true ↔ transP xs n := by
    rw [trN_iff hp (by rw [e8, List.length_range]; exact h1) (fun b hb => by rw [e8] at hb; exact List.mem_range.1 hb)]
    rw [e8]
    simp only [List.mem_range]
    exact ⟨fun h a b c ha hb hc => h a b c ha hb hc, fun h a b c ha hb hc => h a b c ha hb hc⟩
  have hs : 2 ^ n = (2 ^ n - 1) + 1 := by omega
  rw [← hiff]
  constructor
  · intro h
    rw [hs, ltK] at h
    by_cases q : trN xs (2 ^ n - 1) = true
    · exact q
    · rw [if_neg (fun h => q h.2)] at h
      rcases ltK_lt xs (2 ^ n - 1) with h3 | h3
      · omega
      · omega
  · intro h
    rw [hs]
    exact lt_full xs h fun T hT => pop_full (by omega) hT
/-! the scores of a transitive tour -/
/-- who beats has the greater score -/
theorem sc_more (hp : tourP n xs) (ht : transP xs n) {a b : Nat} (ha : a < n) (hb : b < n) (h : bt xs a b = true) : scN xs b < scN xs a := by
  rw [sc_sum hp ha, sc_sum hp hb]
  have h1 : ∀ k, k < n → (if bt xs b k = true then (1 : Int) else 0) + (if k = b then 1 else 0) ≤ if bt xs a k = true then 1 else 0 := fun k hk => by
    by_cases e : k = b
    · subst e
      rw [if_neg (by rw [bt_irr hp]; simp), if_pos rfl, if_pos h]; omega
    · rw [if_neg e]
      rcases q : bt xs b k with _ | _
      · rw [if_neg (by simp)]
        split <;> omega
      · rw [if_pos rfl, if_pos (ht a b k ha hb hk h q)]; omega
  have h2 : sumN (fun k => (if bt xs b k = true then (1 : Int) else 0) + (if k = b then 1 else 0)) n ≤ sumN (fun k => if bt xs a k = true then 1 else 0) n := by
    have := sumN_nonneg (f := fun k => (if bt xs a k = true then (1 : Int) else 0) - ((if bt xs b k = true then (1 : Int) else 0) + (if k = b then 1 else 0))) (n := n) fun k hk => by
      have := h1 k hk
      omega
    rw [sumN_sub] at this
    omega
  rw [sumN_add] at h2
  have h3 : sumN (fun k => if k = b then (1 : Int) else 0) n = 1 := by
    rw [sumN_one hb fun k _ hk => by simp [hk]]
    simp
  omega
theorem perm_sumI {l m : List Int} (h : l.Perm m) : l.sum = m.sum := by
  induction h with
  | nil => rfl
  | cons x _ ih => rw [List.sum_cons, List.sum_cons, ih]
  | swap x y l => simp only [List.sum_cons]; omega
  | trans _ _ h1 h2 => exact h1.trans h2
theorem behind_sum (n : Nat) : ∀ i, i < n → sumN (fun k => if i < k then (1 : Int) else 0) n = n - 1 - i := by
  intro i hi
  have h1 : sumN (fun k => (if i < k then (1 : Int) else 0) + (if k < i + 1 then 1 else 0)) n = n := by
    rw [sumN_congr (g := fun _ => 1) fun k _ => by
      by_cases h : i < k
      · rw [if_pos h, if_neg (by omega)]; rfl
      · rw [if_neg h, if_pos (by omega)]; rfl, sumN_const]
    omega
  have h2 : ∀ m, sumN (fun k => if k < i + 1 then (1 : Int) else 0) m = (min m (i + 1) : Nat) := by
    intro m
    induction m with
    | zero => rfl
    | succ m ih =>
      show sumN (fun k => if k < i + 1 then (1 : Int) else 0) m + (if m < i + 1 then (1 : Int) else 0) = _
      rw [ih]
      split <;> omega
  rw [sumN_add, h2 n] at h1
  omega
/-- the score of who stands at place i -/
theorem sc_place (hp : tourP n xs) {l : List Nat} (hl : l ∈ ordL n) (h : revN (bt xs) l = 0) {i : Nat} (hi : i < n) : scN xs (l.getD i 0) = n - 1 - i := by
  obtain ⟨o1, o2, o3⟩ := ord_at hl
  have hlen := (mem_ordL.1 hl).1
  have hpw := List.pairwise_iff_getElem.1 ((zero_beats hp hl).1 h)
  rw [sc_sum hp (o1 i hi), ord_sum hl, ← behind_sum n i hi]
  refine sumN_congr fun k hk => ?_
  have e1 : l.getD i 0 = l[i]'(by omega) := getD_nat (by omega)
  have e2 : l.getD k 0 = l[k]'(by omega) := getD_nat (by omega)
  rcases Nat.lt_trichotomy i k with h1 | h1 | h1
  · rw [if_pos (by rw [e1, e2]; exact hpw i k (by omega) (by omega) h1), if_pos h1]
  · subst h1
    rw [if_neg (by rw [bt_irr hp]; simp), if_neg (by omega)]
  · have h2 := hpw k i (by omega) (by omega) h1
    rw [← e1, ← e2] at h2
    rw [if_neg (by rw [(bt_asym hp (o1 k hk) (o1 i hi) h2).1]; simp), if_neg (by omega)]
/-- the sequence of scores is 0, 1, .. -/
def stairs (n : Nat) : List Int := (List.range n).map fun (i : Nat) => (i : Int)
theorem stairs_trans (hp : tourP n xs) (h7 : n ≤ 7) : srtL (scL xs n) = stairs n ↔ transP xs n := by
  have hpm := srtL_perm (scL xs n)
  constructor
  · intro h
    rw [h] at hpm
    rw [← sq_trans hp h7]
    have h1 : ((stairs n).map fun x => x * x).sum = ((scL xs n).map fun x => x * x).sum := by
      have := (hpm.map fun x => x * x)
      exact perm_sumI this
    have h2 : (sqK xs n : Int) = ((scL xs n).map fun x => x * x).sum := by
      unfold sqK scL
      rw [sum_nat, List.map_map]
      congr 1
    have h3 : 6 * ((stairs n).map fun x => x * x).sum = ((n * (n - 1) * (2 * n - 1) : Nat) : Int) := by
      have : ∀ n, n < 8 → 6 * ((stairs n).map fun x => x * x).sum = ((n * (n - 1) * (2 * n - 1) : Nat) : Int) := by decide
      exact this n (by omega)
    rw [← h1] at h2
    omega
  · intro ht
    have hl := (bestO_law (r := bt xs) (n := n) (bt_irr hp)).1
    have h0 := trans_best hp ht
    generalize bestO (bt xs) n = l at *
    have hlen := (mem_ordL.1 hl).1
    have e1 : l.map (scN xs) = (stairs n).reverse := by
      refine List.ext_getElem (by simp [stairs, hlen]) fun i hi1 hi2 => ?_
      have hi : i < n := by rw [List.length_map, hlen] at hi1; exact hi1
      have := sc_place hp hl h0 hi
      rw [getD_nat (by omega)] at this
      rw [List.getElem_map, this, List.getElem_reverse]
      simp [stairs]
      omega
    have e2 : (scL xs n).Perm (stairs n) := by
      have h1 : (scL xs n).Perm (l.map (scN xs)) := (ord_perm hl).symm.map (scN xs)
      rw [e1] at h1
      exact h1.trans (List.reverse_perm _)
    refine List.Perm.eq_of_pairwise (le := (· ≤ ·)) (fun a b _ _ h1 h2 => by omega) (srtL_sorted _) ?_ (hpm.trans e2)
    unfold stairs
    rw [List.pairwise_map]
    exact List.pairwise_lt_range.imp fun h => by omega
end Go.Proofs.YtbkiedhaacapbaaGreat

namespace Go.Proofs.YtbkiedhaacapbaaGreat
open Go.Shelf
def laysGrow_ren : Go.Shelf.Ren := ⟨fun | 4 => 105 | n => n, fun | 22 => 23 | 25 => 3 | 3 => 3 | 4 => 4 | 9 => 9 | 20 => 20 | 0 => 0 | n => n, fun | n => n⟩
theorem laysGrow : Go.Proofs.Lays8.n4 Tryz.prog laysGrow_ren := {
  mixed := by kernel_rfl
  f4 := ⟨Tryz.f105.name, by decide, Tryz.func105.trans (congrArg some (by kernel_rfl))⟩
  t0 := Tryz.underlying0
  a0 := Tryz.isAgg0
  z0 := Tryz.sizeOf0
  v0 := Tryz.zeroValue0
  t3 := Tryz.underlying3
  a3 := Tryz.isAgg3
  z3 := Tryz.sizeOf3
  v3 := Tryz.zeroValue3
  t4 := Tryz.underlying4
  a4 := Tryz.isAgg4
  z4 := Tryz.sizeOf4
  v4 := Tryz.zeroValue4
  t9 := Tryz.underlying9
  a9 := Tryz.isAgg9
  z9 := Tryz.sizeOf9
  v9 := Tryz.zeroValue9
  t20 := Tryz.underlying20
  a20 := Tryz.isAgg20
  z20 := Tryz.sizeOf20
  v20 := Tryz.zeroValue20
  t22 := Tryz.underlying23
  a22 := Tryz.isAgg23
  z22 := Tryz.sizeOf23
  v22 := Tryz.zeroValue23 }
end Go.Proofs.YtbkiedhaacapbaaGreat

namespace Go.Proofs.YtbkiedhaacapbaaGreat
open Go.RowKit Go.Sort
set_option maxRecDepth 100000
/-- a read of a row whose address is known -/
def RdA (w : World) (a : Addr) (xs : List Int) : Prop := ∀ k, k < xs.length → w.cell? (a.add k) = some (.int .i64 (xs.getD k 0))
theorem RdA.below {w w' : World} {a : Addr} {xs : List Int} (h : RdA w a xs) (hb : Below w.heap.size w w') : RdA w' a xs := fun k hk => by
  have := h k hk
  exact (hb.cell (World.block_lt_of_cell? _ _ this)).trans this
theorem grow_any (n : Nat) (w : World) (hn : n ≤ 1000) :
    Calls Tryz.prog 105 #[.slice none 0 0, .int .i64 n] w fun e w' => ∃ v', e = .returned v' ∧ Own w' w.heap.size v' [] ∧ Below w.heap.size w w' := by
  rcases Nat.eq_zero_or_pos n with h0 | h0
  · subst h0
    refine (Any8.slices_Grow_room laysGrow none 0 0 0 w (by omega) (by omega) (by omega) (by omega)).mono ?_
    rintro e w' ⟨rfl, rfl⟩
    exact ⟨_, rfl, Own.nil_ _ _, Below.refl _ _⟩
  · obtain ⟨i0, hi, hz0, hz1, hz2⟩ := info_parts i64_info
    refine (Any8.slices_Grow_grow laysGrow i0 (.int .i64 0) hi hz0 (by rw [hz1]; decide) none 0 0 n [] w (by omega) (by omega) (by rw [hz2]; omega) (by omega) (by simp) (fun _ => rfl) (fun a h => by cases h)).mono ?_
    rintro e w' ⟨rfl, rfl⟩
    have hge := grownCap_ge w (0 + n) 0 3
    have hle := grownCap_le_maxLen w (0 + n) 0 3 (by unfold maxLen; omega)
    refine ⟨_, rfl, ⟨rfl, .inr ⟨w.heap.size, _, _, rfl, Nat.le_refl _, (Array.getElem?_push_size (xs := w.drew.heap)), Nat.zero_le _, hle, ?_, ?_⟩⟩, ?_⟩
    · show _ = grownCap w (0 + n) 0 3 * 1
      have e : (Builtin.zeroCells (Value.int IntKind.i64 0).cells (0 + n - 0)).size + (Builtin.zeroCells (Value.int IntKind.i64 0).cells (grownCap w (0 + n) 0 3 - (0 + n))).size = grownCap w (0 + n) 0 3 := by
        have h1 : (Value.int IntKind.i64 0).cells.size = 1 := rfl
        generalize grownCap w (0 + n) 0 3 = q at *
        simp [Builtin.zeroCells, h1]
        omega
      rw [Nat.mul_one]
      refine Eq.trans ?_ e
      simp
      rfl
    · simp
    · exact (Below.refl _ _).drew.alloc (by simp) _
set_option maxHeartbeats 2000000 in
theorem concat2_any (g off cc : Nat) (a1 a2 : Addr) (c1 c2 : Nat) (xs ys : List Int) (w : World) (h0 : w.cell? ⟨g, off, none⟩ = some (.slice (some a1) xs.length c1)) (h1 : w.cell? ⟨g, off + 1, none⟩ = some (.slice (some a2) ys.length c2))
    (hx : RdA w a1 xs) (hy : RdA w a2 ys) (hl : xs.length + ys.length ≤ 1000) :
    Calls Tryz.prog 95 #[.slice (some ⟨g, off, none⟩) 2 cc] w fun e w' => ∃ v', e = .returned v' ∧ Own w' w.heap.size v' (xs ++ ys) ∧ Below w.heap.size w w' := by
  have HX := Lib.hid hx
  have HY := Lib.hid hy
  obtain ⟨n, hn⟩ : ∃ n, n = xs.length := ⟨_, rfl⟩
  obtain ⟨m, hm⟩ : ∃ m, m = ys.length := ⟨_, rfl⟩
  have HN := Lib.hid hn
  have HM := Lib.hid hm
  rw [← hn, ← hm] at hl
  rw [← hn] at h0
  rw [← hm] at h1
  have C0 := Lib.hid h0
  have C1 := Lib.hid h1
  clear hx hy hn hm h0 h1
  have hg0 := World.block_lt_of_cell? _ _ C0.out
  go_enter Tryz.func95, Tryz.ntmps95
  go_wp2
  go_loop [3, 11] (fun t3 t11 => ∃ (j s : Nat), j ≤ 2 ∧ t11 = .int .i64 j ∧ t3 = .int .i64 s ∧ ((j = 0 ∧ s = 0) ∨ (j = 1 ∧ s = n) ∨ (j = 2 ∧ s = n + m))) (fun _ t11 => 2 - (intOf t11).toNat)
  case atStart => exact ⟨0, 0, by omega, rfl, rfl, by omega⟩
  case round =>
    obtain ⟨j, s, hj, rfl, rfl, hjs⟩ := hrel
    rcases hjs with ⟨rfl, rfl⟩ | ⟨rfl, rfl⟩ | ⟨rfl, rfl⟩
    · have y0 := C0.out
      go_wp2
      go_round
      case rel => exact ⟨1, n, by omega, by go_num, by go_num, by omega⟩
      case measure => simp [intOf]
    · have y0 := C1.out
      go_wp2
      go_round
      case rel => exact ⟨2, s + m, by omega, by go_num, by go_num, by omega⟩
      case measure => simp [intOf]
    · go_wp2_with fail
      refine (grow_any (n + m) _ (by omega)).mono ?_
      rintro e w2 ⟨v2, rfl, ho2, hb2⟩
      have HO2 := Lib.hid ho2
      have HB2 := Lib.hid hb2
      have hs2 := hb2.size
      clear ho2 hb2
      go_wp2
      go_loopw [6, 27] (fun t6 t27 wr => ∃ (j : Nat) (v : Value), j ≤ 2 ∧ t27 = .int .i64 j ∧ v = t6 ∧ Hid (Own wr w.heap.size v (if j = 0 then [] else if j = 1 then xs else xs ++ ys)) ∧ Hid (Below w.heap.size w wr)) (fun _ t27 _ => 2 - (intOf t27).toNat)
      case atStart => exact ⟨0, _, by omega, rfl, rfl, HO2, HB2⟩
      case round =>
        obtain ⟨wi, rfl⟩ : ∃ x, x = wr := ⟨_, rfl⟩
        obtain ⟨j, t6, hj, rfl, rfl, HO, HB⟩ := hrel
        clear HO2 HB2
        have hsz := HB.out.size
        have hfo := HO.out
        obtain rfl | rfl | rfl : j = 0 ∨ j = 1 ∨ j = 2 := by omega
        · rw [if_pos rfl] at hfo
          have y0 := (HB.out.cell (p := ⟨g, off, none⟩) hg0).trans C0.out
          have HXi := Lib.hid (HX.out.below HB.out)
          go_wp2_with (at_builtin; refine wp_appendN wi rfl (.tmp 31) (.tmp 32) rfl w.heap.size _ [] rfl hfo a1 c1 xs (by rw [← HN.out]; rfl) (by intro z hz; exact HXi.out z hz) (by rw [← HN.out]; simp; omega) hsz ?_; intro v' w7 hown1 hg1; have HO7 := Lib.hid hown1; have HB7 := Lib.hid (below_append HB.out hg1 hfo (Nat.le_refl _) hsz); clear hown1 hg1)
          go_roundw
          case rel => exact ⟨1, _, by omega, by go_num, rfl, by simpa using HO7, HB7⟩
          case measure => simp [intOf]
        · rw [if_neg (by decide), if_pos rfl] at hfo
          have y0 := (HB.out.cell (p := ⟨g, off + 1, none⟩) hg0).trans C1.out
          have HYi := Lib.hid (HY.out.below HB.out)
          go_wp2_with (at_builtin; refine wp_appendN wi rfl (.tmp 31) (.tmp 32) rfl w.heap.size _ xs rfl hfo a2 c2 ys (by rw [← HM.out]; rfl) (by intro z hz; exact HYi.out z hz) (by rw [← HN.out, ← HM.out]; omega) hsz ?_; intro v' w7 hown1 hg1; have HO7 := Lib.hid hown1; have HB7 := Lib.hid (below_append HB.out hg1 hfo (Nat.le_refl _) hsz); clear hown1 hg1)
          go_roundw
          case rel => exact ⟨2, _, by omega, by go_num, rfl, by simpa using HO7, HB7⟩
          case measure => simp [intOf]
        · rw [if_neg (by decide), if_neg (by decide)] at hfo
          have HF := Lib.hid hfo
          clear hfo
          go_wp2
          go_ret
          exact ⟨_, rfl, HF.out, HB.out⟩
end Go.Proofs.YtbkiedhaacapbaaGreat

namespace Go.Proofs.YtbkiedhaacapbaaGreat
open Go.RowKit Go.Sort
set_option maxRecDepth 100000
def sg (xs : List Int) (a b : Nat) : Int := if a = b then 0 else if bt xs a b = true then 1 else -1
theorem sg_sk {n : Nat} {xs : List Int} (hp : tourP n xs) : SkT (sg xs) n where
  diag := fun i _ => by simp [sg]
  skew := fun i k hi hk => by
    unfold sg
    by_cases e : i = k
    · rw [if_pos e, if_pos e.symm]; rfl
    · rw [if_neg e, if_neg (Ne.symm e)]
      rcases q : bt xs i k with _ | _
      · rw [(bt_flip hp hk hi (Ne.symm e)).2 q]; rfl
      · rw [(bt_flip hp hi hk e).1 q]; rfl
  one := fun i k hi hk e => by
    unfold sg
    rw [if_neg e]
    split
    · exact .inl rfl
    · exact .inr rfl
theorem pfF_zero (A : Nat → Nat → Int) : ∀ f, pfF A f [] = 1 := by
  intro f
  cases f <;> rfl
theorem nI_take (l : List Nat) (k : Nat) : nI (l.take k) = (nI l).take k := by simp [nI, List.map_take]
theorem nI_drop (l : List Nat) (k : Nat) : nI (l.drop k) = (nI l).drop k := by simp [nI, List.map_drop]
theorem nI_append (l m : List Nat) : nI (l ++ m) = nI l ++ nI m := by simp [nI]
set_option maxHeartbeats 4000000 in
theorem pfaffian_any (n : Nat) (sl : Value) (xs : List Int) (hp : tourP n xs) (h7 : n ≤ 8) : ∀ (f : Nat) (l : List Nat) (v : Value) (w : World), l.length ≤ f → l.length % 2 = 0 → l.length ≤ 6 → l.Nodup → (∀ x ∈ l, x < n) → Rd w sl xs → Rd w v (nI l) →
    Calls Tryz.prog 72 #[.agg #[.int .i64 n, sl], v] w fun e w' => e = .returned (.int .i64 (pfF (sg xs) f l)) ∧ Below w.heap.size w w' := by
  have HP := Lib.hid hp
  have hln := tour_len hp
  have HLN := Lib.hid hln
  clear hp hln
  intro f
  induction f using Nat.strongRecOn with
  | _ f ih =>
    intro l v w hlf hev h6 hnd hm h hv
    have HIH := Lib.hid ih
    clear ih
    have HR := Lib.hid h
    obtain ⟨A, c, rfl, -, hcm, -⟩ := h
    unfold maxLen at hcm
    rw [HLN.out] at HR ⊢
    obtain ⟨B, d, rfl, hd1, hd2, hx⟩ := hv
    unfold maxLen at hd2
    rw [nI_len] at hd1 hx ⊢
    rcases l with _ | ⟨hh, t⟩
    · rw [pfF_zero]
      go_enter Tryz.func72, Tryz.ntmps72
      go_wp2_with fail
      have b0 := below_alloc1 w (.cells #[.int .i64 n, .slice A n c] 25)
      have x0 := TBox.new w n (.slice A n c) 25
      generalize w.alloc (.cells #[.int .i64 n, .slice A n c] 25) = w0 at *
      have HX0 := Lib.hid x0
      have HB0 := Lib.hid b0
      clear x0 b0
      have y0_0 := HX0.out.1
      have y1_0 := HX0.out.2
      go_wp2
      go_ret
      exact ⟨rfl, HB0.out⟩
    · obtain ⟨f, rfl⟩ : ∃ f', f = f' + 1 := ⟨f - 1, by simp at hlf; omega⟩
      obtain ⟨g, off, rfl, hg, hc⟩ := hx (by simp)
      have HV := Lib.hid hc
      have HE : Hid (pfF (sg xs) (f + 1) (hh :: t) = pfS (sg xs) hh (pfF (sg xs) f) [] t 1) := Lib.hid rfl
      clear hx hc
      simp only [List.length_cons] at hlf hev h6 hd1 HV ⊢
      obtain ⟨m, hmt⟩ : ∃ m, m = t.length := ⟨_, rfl⟩
      have HMT := Lib.hid hmt
      rw [← hmt] at hlf hev h6 hd1 HV ⊢
      clear hmt
      go_enter Tryz.func72, Tryz.ntmps72
      go_wp2_with fail
      have b0 := below_alloc1 w (.cells #[.int .i64 n, .slice A n c] 25)
      have x0 := TBox.new w n (.slice A n c) 25
      generalize w.alloc (.cells #[.int .i64 n, .slice A n c] 25) = w0 at *
      have HX0 := Lib.hid x0
      have HB0 := Lib.hid b0
      clear x0 b0
      have y0_0 := HX0.out.1
      have y1_0 := HX0.out.2
      have g1 : (((m + 1 : Nat) : Int) == 0) = false := by simp; omega
      have g2 : ((m : Int) + 1 == 0) = false := by simp; omega
      go_wp2
      rw [g2]
      clear g1 g2
      go_loopw [5, 6, 7] (fun t5 t6 t7 wr => ∃ (k : Nat) (S s : Int), k ≤ m ∧ t7 = .int .i64 ((k + 1 : Nat) : Int) ∧ t6 = .int .i64 s ∧ t5 = .int .i64 S ∧ (s = 1 ∨ s = -1) ∧ -15 * k ≤ S ∧ S ≤ 15 * k ∧ Hid (S + pfS (sg xs) hh (pfF (sg xs) f) (t.take k) (t.drop k) s = pfF (sg xs) (f + 1) (hh :: t)) ∧ Hid (TBox wr w.heap.size n (.slice A n c)) ∧ Hid (Below w.heap.size w wr)) (fun _ _ t7 _ => m + 1 - (intOf t7).toNat)
      case atStart => exact ⟨0, 0, 1, by omega, rfl, rfl, rfl, by omega, by omega, by omega, Lib.hid (by rw [HE.out]; simp), HX0, HB0⟩
      case round =>
        obtain ⟨wo, rfl⟩ : ∃ x, x = wr := ⟨_, rfl⟩
        obtain ⟨k, S, s, hk, rfl, rfl, rfl, hs, hS1, hS2, HS, HX, HB⟩ := hrel
        clear HX0 HB0 y0_0 y1_0
        by_cases hlt : k < m
        · have y0 := HX.out.1
          have y1 := HX.out.2
          have i0 : (0 : Int) ≤ (k : Int) + 1 := by omega
          have i1 : (k : Int) + 1 ≤ d := by omega
          have i2 : (k : Int) + 1 + 1 ≤ (m : Int) + 1 := by omega
          have i3 : (0 : Int) ≤ (k : Int) + 1 + 1 := by omega
          have i4 : (m : Int) + 1 ≤ d := by omega
          have i5 : (1 : Int) ≤ (k : Int) + 1 := by omega
          have e1 : IntKind.i64.wrap ((k : Int) + 1 + 1) = (k : Int) + 1 + 1 := IntWalk.i64_in _ (by omega)
          have e2 : ¬ d = 1 := by omega
          obtain ⟨r, hr⟩ : ∃ r, m = k + 1 + r := ⟨m - (k + 1), by omega⟩
          have e3 : ((k : Int) + 1 + 1).toNat = k + 2 := by omega
          obtain ⟨a2, ha2, hA2⟩ : ∃ a2 : Addr, (if d = ((k : Int) + 1 + 1).toNat then some (⟨g, off, none⟩ : Addr) else some ⟨g, off + ((k : Int) + 1 + 1).toNat, none⟩) = some a2 ∧ RdA w a2 (nI (t.drop (k + 1))) := by
            have hlen : (nI (t.drop (k + 1))).length = r := by rw [nI_len, List.length_drop, ← HMT.out]; omega
            rw [e3]
            by_cases hdk : d = k + 2
            · rw [if_pos hdk]
              exact ⟨_, rfl, fun j hj => by rw [hlen] at hj; omega⟩
            · rw [if_neg hdk]
              refine ⟨_, rfl, fun j hj => ?_⟩
              rw [hlen] at hj
              have := HV.out (k + 2 + j) (by omega)
              have hg0 : (nI (hh :: t)).getD (k + 2 + j) 0 = (nI (t.drop (k + 1))).getD j 0 := by
                rw [nI_drop]
                have e : k + 2 + j = (k + 1 + j) + 1 := by omega
                simp [nI, e, List.getElem?_drop]
              rw [hg0] at this
              rw [Addr.add_lit, show off + (k + 2) + j = off + (k + 2 + j) by omega]
              exact this
          have hA1 : RdA w ⟨g, off + 1, none⟩ (nI (t.take k)) := fun j hj => by
            have hj' : j < k := by rw [nI_len, List.length_take] at hj; omega
            have := HV.out (1 + j) (by omega)
            have hg0 : (nI (hh :: t)).getD (1 + j) 0 = (nI (t.take k)).getD j 0 := by
              rw [Nat.add_comm 1 j]
              simp [nI, hj']
            rw [hg0] at this
            rw [Addr.add_lit, show off + 1 + j = off + (1 + j) by omega]
            exact this
          obtain ⟨d2, hd2⟩ : ∃ d2, d - ((k : Int) + 1 + 1).toNat = d2 := ⟨_, rfl⟩
          have e4 : m + 1 - ((k : Int) + 1 + 1).toNat = r := by omega
          have B1 : Below w.heap.size w (wo.alloc (.cells #[.slice (some ⟨g, off + 1, none⟩) k (d - 1), .slice (some a2) r d2] 23)).drew := (Below.then HB.out (below_alloc1 wo _)).drew
          have HB1 := Lib.hid B1
          have HA1 := Lib.hid (hA1.below HB1.out)
          have HA2 := Lib.hid (hA2.below HB1.out)
          have HL1 : Hid ((nI (t.take k)).length = k) := Lib.hid (by rw [nI_len, List.length_take, ← HMT.out]; omega)
          have HL2 : Hid ((nI (t.drop (k + 1))).length = r) := Lib.hid (by rw [nI_len, List.length_drop, ← HMT.out]; omega)
          have H0 : Hid ((wo.alloc (.cells #[.slice (some ⟨g, off + 1, none⟩) k (d - 1), .slice (some a2) r d2] 23)).drew.cell? ⟨wo.heap.size, 0, none⟩ = some (.slice (some ⟨g, off + 1, none⟩) (nI (t.take k)).length (d - 1))) := Lib.hid (by rw [HL1.out]; simp)
          have H1 : Hid ((wo.alloc (.cells #[.slice (some ⟨g, off + 1, none⟩) k (d - 1), .slice (some a2) r d2] 23)).drew.cell? ⟨wo.heap.size, 0 + 1, none⟩ = some (.slice (some a2) (nI (t.drop (k + 1))).length d2)) := Lib.hid (by rw [HL2.out]; simp)
          have HLE : Hid ((nI (t.take k)).length + (nI (t.drop (k + 1))).length ≤ 1000) := Lib.hid (by rw [HL1.out, HL2.out]; omega)
          have HXd := Lib.hid (fun o => (show TBox wo.drew w.heap.size n (.slice A n c) from HX.out).below (below_alloc1 wo.drew o))
          have HX1 := Lib.hid (show TBox (wo.alloc (.cells #[.slice (some ⟨g, off + 1, none⟩) k (d - 1), .slice (some a2) r d2] 23)).drew w.heap.size n (.slice A n c) from HX.out.below (below_alloc1 wo _).drew)
          have hsub : (t.take k ++ t.drop (k + 1)).Sublist t := by
            have h1 : (t.drop (k + 1)).Sublist (t.drop k) := List.drop_sublist_drop_left t (by omega)
            have := (List.Sublist.refl (t.take k)).append h1
            rwa [List.take_append_drop] at this
          have HNL : Hid ((t.take k ++ t.drop (k + 1)).length = m - 1) := Lib.hid (by
            rw [List.length_append, List.length_take, List.length_drop, ← HMT.out]; omega)
          have HND : Hid ((t.take k ++ t.drop (k + 1)).Nodup) := Lib.hid (hsub.nodup (List.nodup_cons.1 hnd).2)
          have HMB : Hid (∀ x ∈ t.take k ++ t.drop (k + 1), x < n) := Lib.hid fun x hx => hm x (List.mem_cons_of_mem _ (hsub.subset hx))
          have HNX : Hid (pfS (sg xs) hh (pfF (sg xs) f) (t.take k) (t.drop k) s = s * pfF (sg xs) f (t.take k ++ t.drop (k + 1)) * sg xs hh (t.getD k 0) + pfS (sg xs) hh (pfF (sg xs) f) (t.take (k + 1)) (t.drop (k + 1)) (-s)) := Lib.hid (by
            have hkt : k < t.length := by rw [← HMT.out]; exact hlt
            rw [List.drop_eq_getElem_cons hkt, pfS, getD_nat hkt, ← List.take_succ_eq_append_getElem hkt])
          have HPB := Lib.hid (pfF_facts (sg_sk HP.out) f _ (by rw [HNL.out]; omega) (by rw [HNL.out]; omega) HND.out HMB.out)
          have hbd : pfBd (m - 1) ≤ 15 := by
            have : m = 1 ∨ m = 3 ∨ m = 5 := by omega
            rcases this with h | h | h <;> rw [h] <;> decide
          rw [HNL.out] at HPB
          have HIC : Hid (∀ v3 w3, Rd w3 (.slice A n c) xs → Rd w3 v3 (nI (t.take k ++ t.drop (k + 1))) → Calls Tryz.prog 72 #[.agg #[.int .i64 n, .slice A n c], v3] w3 fun e w' => e = .returned (.int .i64 (pfF (sg xs) f (t.take k ++ t.drop (k + 1)))) ∧ Below w3.heap.size w3 w') := Lib.hid fun v3 w3 h1 h2 => by
            have := HIH.out f (Nat.lt_succ_self f) _ v3 w3 (by rw [HNL.out]; omega) (by rw [HNL.out]; omega) (by rw [HNL.out]; omega) HND.out HMB.out (by rw [HLN.out]; exact h1) h2
            rw [HLN.out] at this
            exact this
          clear hsub hA1 hA2 B1 e3 hr
          generalize pfF (sg xs) f (t.take k ++ t.drop (k + 1)) = P at *
          obtain ⟨z, hz, hz1, hz2, hzs⟩ : ∃ z : Int, IntKind.i64.wrap (s * P) = z ∧ -15 ≤ z ∧ z ≤ 15 ∧ z = s * P := by
            obtain ⟨-, p1, p2⟩ := HPB.out
            have hPb : (pfBd (m - 1) : Int) ≤ 15 := by omega
            generalize (pfBd (m - 1) : Int) = pq at *
            rcases hs with rfl | rfl
            · exact ⟨P, by rw [Int.one_mul]; exact IntWalk.i64_in _ (by omega), by omega, by omega, by omega⟩
            · exact ⟨-P, by rw [Int.neg_one_mul]; exact IntWalk.i64_in _ (by omega), by omega, by omega, by omega⟩
          have HZS := Lib.hid hzs
          have htk : t.getD k 0 < n := by
            have hkt : k < t.length := by rw [← HMT.out]; exact hlt
            exact hm _ (List.mem_cons_of_mem _ (by rw [getD_nat hkt]; exact List.getElem_mem hkt))
          have hhn : hh < n := hm hh (by simp)
          have hne : hh ≠ t.getD k 0 := fun e => (List.nodup_cons.1 hnd).1 (by
            have hkt : k < t.length := by rw [← HMT.out]; exact hlt
            rw [e, getD_nat hkt]; exact List.getElem_mem hkt)
          have hc0 : w.cell? ⟨g, off, none⟩ = some (.int .i64 (hh : Nat)) := HV.out 0 (by omega)
          have hck : w.cell? ⟨g, off + (k + 1), none⟩ = some (.int .i64 (t.getD k 0 : Nat)) := by
            have := HV.out (k + 1) (by omega)
            rw [nI_getD (by simp; rw [← HMT.out]; omega)] at this
            simpa using this
          have HC0 := Lib.hid hc0
          have HCK := Lib.hid hck
          have HBT : Hid (bitI (xs.getD hh 0) (t.getD k 0) = bt xs hh (t.getD k 0)) := Lib.hid (bitI_bt (tour_wins HP.out (by rw [HLN.out]; exact hhn)).1)
          have HSG : Hid (sg xs hh (t.getD k 0) = if bt xs hh (t.getD k 0) = true then 1 else -1) := Lib.hid (by unfold sg; rw [if_neg hne])
          clear hzs hc0 hck hne
          generalize t.getD k 0 = tk at *
          go_wp2_with fail
          go_region_held3 (fun W => W.cell? ⟨w.heap.size, 0, none⟩ = some (.int .i64 n) ∧ W.cell? ⟨w.heap.size, 1, none⟩ = some (.slice A n c))
            (first | exact ⟨y0, y1⟩ | exact HX3.out | exact HX4.out | exact HXd.out _)
            (first
              | (go_at_call 72; refine (HIC.out v3 w3 (HR.out.below HB3.out) HO3.out).mono ?_; rintro e w4 ⟨rfl, hb4⟩; have HX4 := Lib.hid (HX3.out.below hb4); have HB4 := Lib.hid (Below.then HB3.out hb4); clear hb4)
              | (go_at_call 95; refine (concat2_any wo.heap.size 0 2 ⟨g, off + 1, none⟩ a2 (d - 1) d2 (nI (t.take k)) (nI (t.drop (k + 1))) _ H0.out H1.out HA1.out HA2.out HLE.out).mono ?_; rintro e w3 ⟨v3, rfl, ho3, hb3⟩; have HX3 := Lib.hid (HX1.out.below hb3); have HB3 := Lib.hid (Below.then HB1.out hb3); have HO3 := Lib.hid (show Rd w3 v3 (nI (t.take k ++ t.drop (k + 1))) by rw [nI_append]; exact ho3.rd); clear hb3 ho3))
          have y0 := HX4.out.1
          have y1 := HX4.out.2
          have k1 := quiet_below (w := w4) (fun W' hW => beats_any n (.slice A n c) xs hh tk W' (HR.out.below (Below.then HB4.out hW)) (by omega) (by rw [HLN.out]; omega) (by omega) (by omega))
          rw [Int.toNat_natCast, Int.toNat_natCast, HBT.out] at k1
          have z0 := cell_regrown y0
          have z1 := cell_regrown y1
          have z2 := cell_regrown ((HB4.out.cell (p := ⟨g, off, none⟩) hg).trans HC0.out)
          have z3 := cell_regrown ((HB4.out.cell (p := ⟨g, off + (k + 1), none⟩) hg).trans HCK.out)
          clear y0 y1
          go_wp2_with fail
          refine wp_region_below (by kernel_rfl) (by kernel_rfl) ?_
          repeat (go_big_quiet_step (first | (with_reducible exact k1 _ _)))
          refine wpQuiet_nil ?_
          intro wq hbq0
          have HXq := Lib.hid (HX4.out.below hbq0)
          have HBq := Lib.hid (Below.then HB4.out hbq0)
          clear hbq0 k1 z0 z1 z2 z3 e1 e4 hz ha2 hd2
          have us : IntKind.i64.wrap (-s) = -s := IntWalk.i64_in _ (by omega)
          rcases q : bt xs hh tk with _ | _
          · rw [q, if_neg (by decide)] at HSG
            have HSN : Hid (S - z + pfS (sg xs) hh (pfF (sg xs) f) (t.take (k + 1)) (t.drop (k + 1)) (-s) = pfF (sg xs) (f + 1) (hh :: t)) := Lib.hid (by
              have h1 := HS.out
              rw [HNX.out, HSG.out, ← HZS.out] at h1
              omega)
            clear HS HNX HSG HZS
            have u1 : IntKind.i64.wrap (S - z) = S - z := IntWalk.i64_in _ (by omega)
            go_wp2
            go_roundw
            case rel =>
              exact ⟨k + 1, S - z, -s, by omega, by go_num, by go_num, by first | rfl | go_num | rw [u1], by omega, by omega, by omega, HSN, HXq, HBq⟩
            case measure => simp [intOf]; omega
          · rw [q, if_pos rfl] at HSG
            have HSN : Hid (S + z + pfS (sg xs) hh (pfF (sg xs) f) (t.take (k + 1)) (t.drop (k + 1)) (-s) = pfF (sg xs) (f + 1) (hh :: t)) := Lib.hid (by
              have h1 := HS.out
              rw [HNX.out, HSG.out, ← HZS.out] at h1
              omega)
            clear HS HNX HSG HZS
            have u1 : IntKind.i64.wrap (S + z) = S + z := IntWalk.i64_in _ (by omega)
            go_wp2
            go_roundw
            case rel => exact ⟨k + 1, S + z, -s, by omega, by go_num, by go_num, by first | rfl | go_num | rw [u1], by omega, by omega, by omega, HSN, HXq, HBq⟩
            case measure => simp [intOf]; omega
        · obtain rfl : k = m := by omega
          have HSE : Hid (S = pfF (sg xs) (f + 1) (hh :: t)) := Lib.hid (by
            rw [← HS.out, List.drop_of_length_le (by rw [← HMT.out]; exact Nat.le_refl _)]; simp [pfS])
          go_wp2
          go_ret
          exact ⟨by rw [← HSE.out]; rfl, HB.out⟩
end Go.Proofs.YtbkiedhaacapbaaGreat

