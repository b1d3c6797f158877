/- FnLeagues: what its numbers are, plain. -/
import Derived.Test.YtdmneccfbfdloaaPts
import Derived.Test.YtdmneccfbfdloaaTab3
import Derived.Test.YtdmneccfbfdloaaUnb
import Derived.Test.YtdmneccfbfdloaaAmong
import Derived.Test.YtdmneccfbfdloaaRest
import Derived.Test.YtdmneccfbfdloaaAddR
import Derived.Test.YtdmneccfbfdloaaOrdS
namespace Go.Proofs.Ytdmneccfbfdloaa
set_option maxRecDepth 100000
/-- a sum over the first n -/
def sumN (f : Nat → Int) : Nat → Int
  | 0 => 0
  | n + 1 => sumN f n + f n
theorem sumN_congr {f g : Nat → Int} {n : Nat} (h : ∀ k, k < n → f k = g k) : sumN f n = sumN g n := by
  induction n with
  | zero => rfl
  | succ n ih => rw [sumN, sumN, ih fun k hk => h k (by omega), h n (by omega)]
theorem sumN_add (f g : Nat → Int) (n : Nat) : sumN (fun k => f k + g k) n = sumN f n + sumN g n := by
  induction n with
  | zero => rfl
  | succ n ih => rw [sumN, sumN, sumN, ih]; omega
theorem sumN_zero (n : Nat) : sumN (fun _ => 0) n = 0 := by
  induction n with
  | zero => rfl
  | succ n ih => rw [sumN, ih]; rfl
theorem sumN_const (c : Int) (n : Nat) : sumN (fun _ => c) n = n * c := by
  induction n with
  | zero => simp [sumN]
  | succ n ih => rw [sumN, ih]; push_cast; rw [Int.add_mul, Int.one_mul]
/-- one place alone -/
theorem sumN_one {f : Nat → Int} {n a : Nat} (ha : a < n) (h : ∀ k, k < n → k ≠ a → f k = 0) : sumN f n = f a := by
  induction n with
  | zero => omega
  | succ n ih =>
    rw [sumN]
    by_cases e : a = n
    · subst e
      rw [sumN_congr (g := fun _ => 0) fun k hk => h k (by omega) (by omega), sumN_zero]; omega
    · rw [ih (by omega) fun k hk => h k (by omega), h n (by omega) (by omega)]; omega
theorem sumN_two {f : Nat → Int} {n a b : Nat} (ha : a < n) (hb : b < n) (hab : a ≠ b) (h : ∀ k, k < n → k ≠ a → k ≠ b → f k = 0) : sumN f n = f a + f b := by
  have e : sumN f n = sumN (fun k => (if k = a then f a else 0) + (if k = b then f b else 0)) n := by
    refine sumN_congr fun k hk => ?_
    by_cases h1 : k = a
    · subst h1; rw [if_pos rfl, if_neg hab]; omega
    · by_cases h2 : k = b
      · subst h2; rw [if_neg h1, if_pos rfl]; omega
      · rw [if_neg h1, if_neg h2, h k hk h1 h2]; rfl
  rw [e, sumN_add, sumN_one ha (fun k _ hk => if_neg hk), sumN_one hb (fun k _ hk => if_neg hk), if_pos rfl, if_pos rfl]
/-- counts of a club -/
theorem recN_cons (r : R4) (rs : List R4) (c m : Int) : recN (r :: rs) c m = (if plays c r = true ∧ outc c r = m then 1 else 0) + recN rs c m := by
  unfold recN
  rw [List.filter_cons]
  by_cases h1 : plays c r = true
  · by_cases h2 : outc c r = m
    · simp [h1, h2]; omega
    · simp [h1, h2]
  · simp only [Bool.not_eq_true] at h1
    simp [h1]
theorem madeN_cons (r : R4) (rs : List R4) (c : Int) : madeN (r :: rs) c = (if plays c r = true then gf1 c r else 0) + madeN rs c := by
  unfold madeN
  rw [List.filter_cons]
  by_cases h1 : plays c r = true
  · simp [h1]
  · simp only [Bool.not_eq_true] at h1
    simp [h1]
theorem agN_cons (r : R4) (rs : List R4) (c : Int) : agN (r :: rs) c = (if plays c r = true then gf2 c r else 0) + agN rs c := by
  unfold agN
  rw [List.filter_cons]
  by_cases h1 : plays c r = true
  · simp [h1]
  · simp only [Bool.not_eq_true] at h1
    simp [h1]
theorem metN_cons (r : R4) (rs : List R4) (a b : Int) : metN (r :: rs) a b = (if metR a b r = true then 1 else 0) + metN rs a b := by
  unfold metN
  rw [List.filter_cons]
  by_cases h1 : metR a b r = true
  · simp [h1]; omega
  · simp only [Bool.not_eq_true] at h1
    simp [h1]
theorem ptsK_rec (rs : List R4) (c : Int) : ptsK rs c = 3 * recN rs c 2 + recN rs c 1 := by
  induction rs with
  | nil => simp [ptsK, recN]
  | cons r rs ih =>
    rw [recN_cons, recN_cons]
    unfold ptsK at ih ⊢
    rw [List.map_cons, List.sum_cons, ih]
    unfold ptsR ptsC
    rcases outc_cases c r with h | h | h
    all_goals by_cases h1 : plays c r = true <;> simp [h, h1] <;> omega
/-- the two clubs of a result -/
theorem plays_iff {n : Nat} {r : R4} (hr : resB n r = true) : ∃ a b : Nat, a < n ∧ b < n ∧ a ≠ b ∧ r.1 = a ∧ r.2.1 = b ∧ ∀ c : Nat, plays c r = true ↔ (c = a ∨ c = b) := by
  obtain ⟨h1, h2, h3, -, -⟩ := resB_true.1 hr
  obtain ⟨a, ea⟩ := Int.eq_ofNat_of_zero_le h1.1
  obtain ⟨b, eb⟩ := Int.eq_ofNat_of_zero_le h2.1
  refine ⟨a, b, by omega, by omega, by omega, ea, eb, fun c => ?_⟩
  unfold plays
  rw [ea, eb]
  simp only [Bool.or_eq_true, beq_iff_eq]
  omega
theorem sum_games {n : Nat} {rs : List R4} (h : ∀ r ∈ rs, resB n r = true) : sumN (fun c => (recN rs c 2 : Int) + recN rs c 1 + recN rs c 0) n = 2 * rs.length := by
  induction rs with
  | nil => rw [sumN_congr (g := fun _ => 0) fun k hk => by simp [recN], sumN_zero]; rfl
  | cons r rs ih =>
    obtain ⟨a, b, ha, hb, hab, -, -, hp⟩ := plays_iff (h r (by simp))
    have e : sumN (fun c => (recN (r :: rs) c 2 : Int) + recN (r :: rs) c 1 + recN (r :: rs) c 0) n = sumN (fun c => (if c = a ∨ c = b then 1 else 0) + ((recN rs c 2 : Int) + recN rs c 1 + recN rs c 0)) n := by
      refine sumN_congr fun c hc => ?_
      rw [recN_cons, recN_cons, recN_cons]
      have hq := hp c
      by_cases h1 : plays c r = true
      · rw [if_pos (hq.1 h1)]
        rcases outc_cases c r with h | h | h <;> simp [h, h1] <;> omega
      · rw [if_neg (fun e => h1 (hq.2 e))]
        simp [h1]
    rw [e, sumN_add, ih fun r' hr' => h r' (by simp [hr']), sumN_two ha hb hab (fun k _ h1 h2 => if_neg (by omega)), if_pos (.inl rfl), if_pos (.inr rfl)]
    simp only [List.length_cons]; push_cast; omega
theorem sum_diff {n : Nat} {rs : List R4} (h : ∀ r ∈ rs, resB n r = true) : sumN (fun c => madeN rs c - agN rs c) n = 0 := by
  induction rs with
  | nil => rw [sumN_congr (g := fun _ => 0) fun k hk => by simp [madeN, agN], sumN_zero]
  | cons r rs ih =>
    obtain ⟨a, b, ha, hb, hab, ea, eb, hp⟩ := plays_iff (h r (by simp))
    have e : sumN (fun c => madeN (r :: rs) c - agN (r :: rs) c) n = sumN (fun c => (if plays c r = true then gf1 c r - gf2 c r else 0) + (madeN rs c - agN rs c)) n := by
      refine sumN_congr fun c hc => ?_
      rw [madeN_cons, agN_cons]
      by_cases h1 : plays c r = true
      · rw [if_pos h1, if_pos h1, if_pos h1]; omega
      · rw [if_neg h1, if_neg h1, if_neg h1]; omega
    rw [e, sumN_add, ih fun r' hr' => h r' (by simp [hr']), sumN_two ha hb hab (fun k _ h1 h2 => if_neg (fun e => by have := (hp k).1 e; omega)), if_pos ((hp a).2 (.inl rfl)), if_pos ((hp b).2 (.inr rfl))]
    unfold gf1 gf2
    rw [if_pos ea, if_pos ea, if_neg (by omega), if_neg (by omega)]
    omega
theorem sum_draws {n : Nat} {rs : List R4} (h : ∀ r ∈ rs, resB n r = true) : ∃ d : Nat, sumN (fun c => (recN rs c 1 : Int)) n = 2 * d ∧ sumN (fun c => ptsK rs c) n = 3 * rs.length - d := by
  induction rs with
  | nil => exact ⟨0, by rw [sumN_congr (g := fun _ => 0) fun k hk => by simp [recN], sumN_zero]; rfl, by rw [sumN_congr (g := fun _ => 0) fun k hk => by simp [ptsK], sumN_zero]; rfl⟩
  | cons r rs ih =>
    obtain ⟨d, d1, d2⟩ := ih fun r' hr' => h r' (by simp [hr'])
    obtain ⟨a, b, ha, hb, hab, ea, eb, hp⟩ := plays_iff (h r (by simp))
    have oa : outc a r = 1 + cmpI r.2.2.1 r.2.2.2 := by unfold outc gf1 gf2; rw [if_pos ea, if_pos ea]
    have ob : outc b r = 1 + cmpI r.2.2.2 r.2.2.1 := by unfold outc gf1 gf2; rw [if_neg (by omega), if_neg (by omega)]
    have e1 : sumN (fun c => (recN (r :: rs) c 1 : Int)) n = sumN (fun c => (if plays c r = true ∧ outc c r = 1 then 1 else 0) + (recN rs c 1 : Int)) n := sumN_congr fun c hc => by
      rw [recN_cons]
      by_cases h1 : plays c r = true ∧ outc c r = 1
      · rw [if_pos h1, if_pos h1]; push_cast; rfl
      · rw [if_neg h1, if_neg h1]; push_cast; rfl
    have e2 : sumN (fun c => ptsK (r :: rs) c) n = sumN (fun c => (if plays c r = true then ptsC (outc c r) else 0) + ptsK rs c) n := sumN_congr fun c hc => by
      simp only [ptsK, ptsR, List.map_cons, List.sum_cons]
    have p1 : plays a r = true := (hp a).2 (.inl rfl)
    have p2 : plays b r = true := (hp b).2 (.inr rfl)
    rw [e1, e2, sumN_add, sumN_add, d1, d2, sumN_two ha hb hab (fun k _ h1 h2 => if_neg (fun e => by have := (hp k).1 e.1; omega)), sumN_two ha hb hab (fun k _ h1 h2 => if_neg (fun e => by have := (hp k).1 e; omega)), oa, ob]
    simp only [p1, p2, true_and, if_true, List.length_cons]
    unfold cmpI ptsC
    rcases Int.lt_trichotomy r.2.2.1 r.2.2.2 with h1 | h1 | h1
    · have n1 : ¬ r.2.2.2 < r.2.2.1 := by omega
      refine ⟨d, ?_, ?_⟩
      · simp [h1, n1]
      · simp [h1, n1]; omega
    · refine ⟨d + 1, ?_, ?_⟩
      · rw [h1]; simp; omega
      · rw [h1]; simp; omega
    · have n1 : ¬ r.2.2.1 < r.2.2.2 := by omega
      refine ⟨d, ?_, ?_⟩
      · simp [h1, n1]
      · simp [h1, n1]; omega
/-- every game is one of one pair -/
theorem metR_iff {n : Nat} {r : R4} (hr : resB n r = true) : ∃ a b : Nat, a < n ∧ b < a ∧ ∀ x y : Nat, y < x → (metR x y r = true ↔ (x = a ∧ y = b)) := by
  obtain ⟨a, b, ha, hb, hab, ea, eb, -⟩ := plays_iff hr
  rcases Nat.lt_or_gt_of_ne hab with h | h
  · refine ⟨b, a, hb, h, fun x y hxy => ?_⟩
    unfold metR
    rw [ea, eb]
    simp only [Bool.or_eq_true, Bool.and_eq_true, beq_iff_eq]
    omega
  · refine ⟨a, b, ha, h, fun x y hxy => ?_⟩
    unfold metR
    rw [ea, eb]
    simp only [Bool.or_eq_true, Bool.and_eq_true, beq_iff_eq]
    omega
theorem sum_met {n : Nat} {rs : List R4} (h : ∀ r ∈ rs, resB n r = true) : sumN (fun a => sumN (fun b => (metN rs a b : Int)) a) n = rs.length := by
  induction rs with
  | nil => rw [sumN_congr (g := fun _ => 0) fun k hk => by simp only [metN, List.filter_nil, List.length_nil]; exact sumN_zero k, sumN_zero]; rfl
  | cons r rs ih =>
    obtain ⟨a, b, ha, hb, hp⟩ := metR_iff (h r (by simp))
    have e : sumN (fun x => sumN (fun y => (metN (r :: rs) x y : Int)) x) n = sumN (fun x => (if x = a then 1 else 0) + sumN (fun y => (metN rs x y : Int)) x) n := sumN_congr fun x hx => by
      have e2 : sumN (fun y => (metN (r :: rs) x y : Int)) x = sumN (fun y => (if x = a ∧ y = b then 1 else 0) + (metN rs x y : Int)) x := sumN_congr fun y hy => by
        rw [metN_cons]
        have := hp x y hy
        by_cases h1 : metR x y r = true
        · rw [if_pos h1, if_pos (this.1 h1)]; push_cast; rfl
        · rw [if_neg h1, if_neg (fun e => h1 (this.2 e))]; push_cast; rfl
      rw [e2, sumN_add]
      congr 1
      by_cases hxa : x = a
      · subst hxa
        rw [if_pos rfl, sumN_one hb (fun k _ hk => if_neg (by omega)), if_pos ⟨rfl, rfl⟩]
      · rw [if_neg hxa, sumN_congr (g := fun _ => 0) fun k hk => if_neg (by omega), sumN_zero]
    rw [e, sumN_add, ih fun r' hr' => h r' (by simp [hr']), sumN_one ha (fun k _ hk => if_neg hk), if_pos rfl]
    simp only [List.length_cons]; push_cast; omega
theorem setOf_step (p : Nat → Bool) (k : Nat) : setOf p (k + 1) = setOf p k + if p k = true then 2 ^ k else 0 := rfl
theorem unbK_all (rs : List R4) (n : Nat) : unbK rs rs.length n = setOf (fun c => recN rs c 0 == 0) n := by
  unfold unbK; rw [List.take_length]
theorem pts_sum (rs : List R4) (n : Nat) : (ptsLK rs n).sum = sumN (fun c => ptsK rs c) n := by
  induction n with
  | zero => rfl
  | succ n ih =>
    have e : ptsLK rs (n + 1) = ptsLK rs n ++ [ptsK rs (n : Nat)] := by unfold ptsLK; rw [List.range_succ, List.map_append]; rfl
    rw [e, List.sum_append, ih, sumN]; simp
theorem pts_bd {n : Nat} {rs : List R4} (hv : leagueB (n : Int) rs = true) : ∀ x ∈ ptsLK rs n, -((180 : Nat) : Int) ≤ x ∧ x ≤ ((180 : Nat) : Int) := by
  intro x hx
  unfold ptsLK at hx
  rw [List.mem_map] at hx
  obtain ⟨c, -, rfl⟩ := hx
  have := (club_bds hv c).1
  omega
/-- the table is in order -/
theorem tab_order {n : Nat} {rs : List R4} (hv : leagueB (n : Int) rs = true) {i : Nat} (hi : i + 1 < n) : ∃ a b : Nat, a < n ∧ b < n ∧ (tabL n rs).getD i 0 = a ∧ (tabL n rs).getD (i + 1) 0 = b ∧
    (keyK rs b < keyK rs a ∨ (keyK rs a = keyK rs b ∧ a < b)) := by
  rw [tabL_eq hv]
  obtain ⟨a, ha, ea⟩ := ordK_at (L := keysL rs n) (i := n) (k := i) (by omega)
  obtain ⟨b, hb, eb⟩ := ordK_at (L := keysL rs n) (i := n) (k := i + 1) (by omega)
  refine ⟨a, b, ha, hb, ea, eb, ?_⟩
  have hp := (ordK_sorted (keysL rs n) n).1
  have hl := ordK_len (keysL rs n) n
  rw [List.pairwise_iff_getElem] at hp
  have := hp i (i + 1) (by omega) (by omega) (by omega)
  rw [show (ordK (keysL rs n) n)[i] = (a : Int) by rw [← ea]; simp [show i < (ordK (keysL rs n) n).length by omega], show (ordK (keysL rs n) n)[i + 1] = (b : Int) by rw [← eb]; simp [show i + 1 < (ordK (keysL rs n) n).length by omega]] at this
  unfold LtK kOf at this
  rw [Int.toNat_natCast, Int.toNat_natCast, keysL_at ha, keysL_at hb] at this
  omega
theorem key_order {s : Int} {rs : List R4} (hv : leagueB s rs = true) {a b : Nat} (h : keyK rs b < keyK rs a ∨ (keyK rs a = keyK rs b ∧ a < b)) :
    ptsK rs b < ptsK rs a ∨ (ptsK rs a = ptsK rs b ∧ (madeN rs b - agN rs b < madeN rs a - agN rs a ∨ (madeN rs a - agN rs a = madeN rs b - agN rs b ∧ (madeN rs b < madeN rs a ∨ (madeN rs a = madeN rs b ∧ a < b))))) := by
  have A := club_bds hv a
  have B := club_bds hv b
  unfold keyK at h
  generalize ptsK rs (a : Nat) = pa at *
  generalize ptsK rs (b : Nat) = pb at *
  generalize madeN rs (a : Nat) = ma at *
  generalize madeN rs (b : Nat) = mb at *
  generalize agN rs (a : Nat) = ga at *
  generalize agN rs (b : Nat) = gb at *
  omega
theorem am_full {n : Nat} {rs : List R4} (h : ∀ r ∈ rs, resB n r = true) : amL (2 ^ n - 1) rs = rs := by
  unfold amL
  rw [List.filter_eq_self]
  intro r hr
  obtain ⟨a, b, ha, hb, -, ea, eb, -⟩ := plays_iff (h r hr)
  unfold amR
  rw [ea, eb, Int.toNat_natCast, Int.toNat_natCast, Nat.testBit_two_pow_sub_one, Nat.testBit_two_pow_sub_one]
  simp [ha, hb]
theorem am_le (S : Nat) (rs : List R4) : (amL S rs).length ≤ rs.length := List.length_filter_le _ _
theorem new_res {n : Nat} (h2 : 2 ≤ n) : resB n (0, 1, 2, 1) = true := by
  rw [resB_true]; simp only; omega
theorem new_pts0 (rs : List R4) : ptsK (rs ++ [(0, 1, 2, 1)]) 0 = ptsK rs 0 + 3 ∧ ptsK (rs ++ [(0, 1, 2, 1)]) 1 = ptsK rs 1 := by
  unfold ptsK
  rw [List.map_append, List.sum_append, List.map_append, List.sum_append]
  constructor
  · congr 1
  · have : ([(0, 1, 2, 1)].map (ptsR 1)).sum = 0 := by decide
    omega
/-- what is left to play -/
def third (r : List Int) : Int := r.getD 2 0
def s3 (L : List (List Int)) : Int := (L.map third).sum
theorem s3_snoc (L : List (List Int)) (r : List Int) : s3 (L ++ [r]) = s3 L + third r := by unfold s3; rw [List.map_append, List.sum_append]; simp
theorem rIn_sum (rs : List R4) (e : Int) (a : Nat) : ∀ m b acc L, rIn rs e a m b acc = some L → s3 L = s3 acc + sumN (fun j => e - (metN rs a ((b + j : Nat) : Int) : Int)) m ∧ ((∀ r ∈ acc, r.length = 3) → ∀ r ∈ L, r.length = 3) := by
  intro m
  induction m with
  | zero => intro b acc L h; simp only [rIn, Option.some.injEq] at h; subst h; exact ⟨by simp [sumN], fun h => h⟩
  | succ m ih =>
    intro b acc L h
    rw [rIn] at h
    split at h
    · cases h
    · rename_i h0
      obtain ⟨h1, h2⟩ := ih _ _ _ h
      have es : ∀ k, sumN (fun j => e - (metN rs a ((b + j : Nat) : Int) : Int)) (k + 1) = (e - (metN rs a (b : Int) : Int)) + sumN (fun j => e - (metN rs a ((b + 1 + j : Nat) : Int) : Int)) k := by
        intro k
        induction k with
        | zero => simp [sumN]
        | succ k ihk =>
          rw [sumN, ihk, sumN, show b + (k + 1) = b + 1 + k by omega]; omega
      rw [es]
      split at h1
      · rename_i hc
        rw [if_pos hc] at h2
        refine ⟨?_, fun ha => h2 fun r hr => ?_⟩
        · rw [h1, s3_snoc]; simp [third]; omega
        · rw [List.mem_append, List.mem_singleton] at hr
          rcases hr with hr | rfl
          · exact ha r hr
          · simp
      · rename_i hc
        rw [if_neg hc] at h2
        exact ⟨by rw [h1]; omega, h2⟩
theorem rOut_sum (rs : List R4) (e : Int) (n : Nat) : ∀ m a acc L, rOut rs e n m a acc = some L → s3 L = s3 acc + sumN (fun i => sumN (fun j => e - (metN rs ((a + i : Nat) : Int) ((a + i + 1 + j : Nat) : Int) : Int)) (n - (a + i + 1))) m ∧ ((∀ r ∈ acc, r.length = 3) → ∀ r ∈ L, r.length = 3) := by
  intro m
  induction m with
  | zero => intro a acc L h; simp only [rOut, Option.some.injEq] at h; subst h; exact ⟨by simp [sumN], fun h => h⟩
  | succ m ih =>
    intro a acc L h
    rw [rOut] at h
    rcases q : rIn rs e a (n - (a + 1)) (a + 1) acc with _ | L1
    · rw [q] at h; cases h
    · rw [q] at h
      obtain ⟨h1, h2⟩ := ih _ _ _ h
      obtain ⟨h3, h4⟩ := rIn_sum _ _ _ _ _ _ _ q
      refine ⟨?_, fun ha => h2 (h4 ha)⟩
      have es : ∀ (f : Nat → Int) k, sumN f (k + 1) = f 0 + sumN (fun i => f (i + 1)) k := by
        intro f k
        induction k with
        | zero => simp [sumN]
        | succ k ihk => rw [sumN, ihk, sumN]; omega
      rw [es, h1, h3]
      have e2 : sumN (fun i => sumN (fun j => e - (metN rs ((a + 1 + i : Nat) : Int) ((a + 1 + i + 1 + j : Nat) : Int) : Int)) (n - (a + 1 + i + 1))) m = sumN (fun i => sumN (fun j => e - (metN rs ((a + (i + 1) : Nat) : Int) ((a + (i + 1) + 1 + j : Nat) : Int) : Int)) (n - (a + (i + 1) + 1))) m := sumN_congr fun i hi => by
        rw [show a + (i + 1) = a + 1 + i by omega]
      rw [e2]
      simp only [Nat.add_zero]
      omega
theorem rIn_third (rs : List R4) (a : Nat) : ∀ m b acc L, rIn rs 4 a m b acc = some L → (∀ r ∈ acc, 0 ≤ third r ∧ third r ≤ 4) → ∀ r ∈ L, 0 ≤ third r ∧ third r ≤ 4 := by
  intro m
  induction m with
  | zero => intro b acc L h; simp only [rIn, Option.some.injEq] at h; subst h; exact fun h => h
  | succ m ih =>
    intro b acc L h
    rw [rIn] at h
    split at h
    · cases h
    · intro ha
      refine ih _ _ _ h fun r hr => ?_
      split at hr
      · rw [List.mem_append, List.mem_singleton] at hr
        rcases hr with hr | rfl
        · exact ha r hr
        · simp [third]; omega
      · exact ha r hr
theorem rOut_third (rs : List R4) (n : Nat) : ∀ m a acc L, rOut rs 4 n m a acc = some L → (∀ r ∈ acc, 0 ≤ third r ∧ third r ≤ 4) → ∀ r ∈ L, 0 ≤ third r ∧ third r ≤ 4 := by
  intro m
  induction m with
  | zero => intro a acc L h; simp only [rOut, Option.some.injEq] at h; subst h; exact fun h => h
  | succ m ih =>
    intro a acc L h ha
    rw [rOut] at h
    rcases q : rIn rs 4 a (n - (a + 1)) (a + 1) acc with _ | L1
    · rw [q] at h; cases h
    · rw [q] at h
      exact ih _ _ _ h (rIn_third _ _ _ _ _ _ q ha)
theorem rest_third {n : Nat} {rs : List R4} : ∀ r ∈ restL n rs 4, 0 ≤ third r ∧ third r ≤ 4 := by
  unfold restL
  split
  · rcases q : rOut rs 4 (n : Int).toNat (n : Int).toNat 0 [] with _ | L
    · simp
    · exact rOut_third _ _ _ _ _ _ q (fun r hr => absurd hr (by simp))
  · simp
theorem s3_take (L : List (List Int)) {k : Nat} (h : k < L.length) : s3 (L.take (k + 1)) = s3 (L.take k) + third (L.getD k []) := by
  rw [List.take_succ_eq_append_getElem h, s3_snoc, show L.getD k [] = L[k] by simp [h]]
theorem s3_bd (L : List (List Int)) (h : ∀ r ∈ L, 0 ≤ third r ∧ third r ≤ 4) : ∀ k, k ≤ L.length → 0 ≤ s3 (L.take k) ∧ s3 (L.take k) ≤ 4 * k := by
  intro k
  induction k with
  | zero => intro _; simp [s3]
  | succ k ih =>
    intro hk
    have h1 := ih (by omega)
    have h2 := h (L.getD k []) (by rw [show L.getD k [] = L[k] by simp [show k < L.length by omega]]; exact List.getElem_mem _)
    rw [s3_take L (by omega)]
    omega
theorem sum_met2 {n : Nat} {rs : List R4} (h : ∀ r ∈ rs, resB n r = true) : sumN (fun i => sumN (fun j => (metN rs (i : Int) ((i + 1 + j : Nat) : Int) : Int)) (n - (i + 1))) n = rs.length := by
  induction rs with
  | nil => rw [sumN_congr (g := fun _ => 0) fun k hk => by simp only [metN, List.filter_nil, List.length_nil]; exact sumN_zero _, sumN_zero]; rfl
  | cons r rs ih =>
    obtain ⟨a, b, ha, hb, hp⟩ := metR_iff (h r (by simp))
    have hs : ∀ x y : Int, metR x y r = metR y x r := fun x y => by unfold metR; rw [Bool.or_comm]
    have e : sumN (fun x => sumN (fun j => (metN (r :: rs) (x : Int) ((x + 1 + j : Nat) : Int) : Int)) (n - (x + 1))) n = sumN (fun x => (if x = b then 1 else 0) + sumN (fun j => (metN rs (x : Int) ((x + 1 + j : Nat) : Int) : Int)) (n - (x + 1))) n := sumN_congr fun x hx => by
      have e2 : sumN (fun j => (metN (r :: rs) (x : Int) ((x + 1 + j : Nat) : Int) : Int)) (n - (x + 1)) = sumN (fun j => (if x = b ∧ x + 1 + j = a then 1 else 0) + (metN rs (x : Int) ((x + 1 + j : Nat) : Int) : Int)) (n - (x + 1)) := sumN_congr fun y hy => by
        rw [metN_cons]
        have := hp (x + 1 + y) x (by omega)
        rw [hs] at this
        by_cases h1 : metR (x : Int) ((x + 1 + y : Nat) : Int) r = true
        · rw [if_pos h1, if_pos ⟨(this.1 h1).2, (this.1 h1).1⟩]; push_cast; rfl
        · rw [if_neg h1, if_neg (fun e => h1 (this.2 ⟨e.2, e.1⟩))]; push_cast; rfl
      rw [e2, sumN_add]
      congr 1
      by_cases hxa : x = b
      · subst hxa
        rw [if_pos rfl, sumN_one (a := a - (x + 1)) (by omega) (fun k _ hk => if_neg (by omega)), if_pos ⟨rfl, by omega⟩]
      · rw [if_neg hxa, sumN_congr (g := fun _ => 0) fun k hk => if_neg (by omega), sumN_zero]
    rw [e, sumN_add, ih fun r' hr' => h r' (by simp [hr']), sumN_one (a := b) (by omega) (fun k _ hk => if_neg hk), if_pos rfl]
    simp only [List.length_cons]; push_cast; omega
theorem sumN_sub (f g : Nat → Int) (n : Nat) : sumN (fun k => f k - g k) n = sumN f n - sumN g n := by
  induction n with
  | zero => rfl
  | succ n ih => rw [sumN, sumN, sumN, ih]; omega
/-- what RestOf gives for 4 -/
theorem rest_four {n : Nat} {rs : List R4} (hv : leagueB (n : Int) rs = true) (h2 : 2 ≤ n) (h6 : n ≤ 6) : (∀ r ∈ restL n rs 4, r.length = 3) ∧ (restL n rs 4 = [] ∨ s3 (restL n rs 4) = (4 * n * (n - 1) : Int) / 2 - rs.length) := by
  have e : restL n rs 4 = (rOut rs 4 n n 0 []).getD [] := by
    unfold restL
    rw [if_pos (by rw [hv]; rfl), Int.toNat_natCast]
  rw [e]
  rcases q : rOut rs 4 n n 0 [] with _ | L
  · exact ⟨fun r hr => absurd hr (by simp), .inl rfl⟩
  · obtain ⟨h3, h4⟩ := rOut_sum _ _ _ _ _ _ _ q
    refine ⟨h4 (fun r hr => absurd hr (by simp)), .inr ?_⟩
    have hm := sum_met2 (n := n) (rs := rs) ((leagueB_true.1 hv).2.2)
    show s3 L = _
    rw [h3]
    have e3 : sumN (fun i => sumN (fun j => (4 : Int) - (metN rs ((0 + i : Nat) : Int) ((0 + i + 1 + j : Nat) : Int) : Int)) (n - (0 + i + 1))) n = sumN (fun i => ((n - (i + 1) : Nat) : Int) * 4 - sumN (fun j => (metN rs (i : Int) ((i + 1 + j : Nat) : Int) : Int)) (n - (i + 1))) n := sumN_congr fun i hi => by
      rw [Nat.zero_add, sumN_sub, sumN_const]
    rw [e3, sumN_sub, hm]
    have e4 : sumN (fun i => ((n - (i + 1) : Nat) : Int) * 4) n = (4 * n * (n - 1) : Int) / 2 := by
      have : n = 2 ∨ n = 3 ∨ n = 4 ∨ n = 5 ∨ n = 6 := by omega
      rcases this with rfl | rfl | rfl | rfl | rfl <;> decide
    rw [e4]
    simp [s3]
end Go.Proofs.Ytdmneccfbfdloaa
