/- Texts put together: GsP, Red, RedQ, Rows2, Max, Strat. -/
import Derived.Test.YtbkiedhaacapbaaGreatMTop23
import Derived.Test.YtbkiedhaacapbaaGreatMTop02
import Derived.Test.YtbkiedhaacapbaaGreatMTop13
import Derived.Maps.AppendAt
import Derived.Test.YtbkiedhaacapbaaGreatMTop01
namespace Go.Proofs.YtbkiedhaacapbaaGreat
set_option maxRecDepth 100000
def bndG : Nat → Nat
  | 0 => 1
  | 1 => 2
  | 2 => 4
  | 3 => 32
  | 4 => 2048
  | 5 => 8388608
  | _ => 140737488355328
/-- a row without common divisor, or no entry but 0 -/
def primR (n : Nat) (o : Nat → Int) : Prop := ∀ d : Nat, (∀ i, i < n → (d : Int) ∣ o i) → d = 1 ∨ ∀ i, i < n → o i = 0
/-- column c is removed from row a by row b -/
def RedP (n : Nat) (a b : Nat → Int) (c : Nat) (o : Nat → Int) : Prop := (∃ g : Nat, 1 ≤ g ∧ ∀ i, i < n → (g : Int) * o i = a i * b c - b i * a c) ∧ primR n o
structure GsS (A : Nat → Nat → Int) (n c : Nat) (M : Nat → Nat → Int) : Prop where
  sol : ∀ w, kerV A n w → ∀ r, r < n → sumN (fun i => M r i * w i) n = 0
  los : ∀ w, (∀ r, r < n → sumN (fun i => M r i * w i) n = 0) → kerV A n w
  zero : ∀ r j, r < n → j < n → j < c → j ≠ r → M r j = 0
  piv : ∀ r, r < c → M r r ≠ 0
  bd : ∀ r i, r < n → i < n → (M r i).natAbs ≤ bndG c
  col : c ≤ 1 → c < n → ∀ r, r < n → (M r c).natAbs ≤ 1
  ini : c = 0 → ∀ r i, r < n → i < n → M r i = A i r
  prim : ∀ r, r < n → primR n (M r)
theorem one_of_dvd {d : Nat} {x : Int} (h : (d : Int) ∣ x) (hx : x = 1 ∨ x = -1) : d = 1 := by
  have h1 : d ∣ 1 := by
    rcases hx with rfl | rfl
    · exact Int.natCast_dvd_natCast.1 h
    · have := (Int.dvd_neg (a := (d : Int)) (b := 1)).1 h
      exact Int.natCast_dvd_natCast.1 this
  exact Nat.dvd_one.1 h1
theorem gs_start {A : Nat → Nat → Int} {n : Nat} (hA : SkT A n) : GsS A n 0 fun r i => A i r where
  sol := fun w h r hr => h r hr
  los := fun w h r hr => h r hr
  zero := fun r j _ _ h => absurd h (by omega)
  piv := fun r h => absurd h (by omega)
  bd := fun r i hr hi => by
    by_cases e : i = r
    · subst e; rw [hA.diag i hi]; decide
    · rcases hA.one i r hi hr e with h | h <;> rw [h] <;> decide
  col := fun _ hc r hr => by
    by_cases e : 0 = r
    · subst e; rw [hA.diag 0 hr]; decide
    · rcases hA.one 0 r hc hr e with h | h <;> rw [h] <;> decide
  ini := fun _ r i _ _ => rfl
  prim := fun r hr d h => by
    by_cases hn : n = 1
    · right
      intro i hi
      obtain rfl : i = r := by omega
      exact hA.diag i hi
    · left
      obtain ⟨i, hi, hir⟩ : ∃ i, i < n ∧ i ≠ r := by
        by_cases e : r = 0
        · exact ⟨1, by omega, by omega⟩
        · exact ⟨0, by omega, by omega⟩
      exact one_of_dvd (h i hi) (hA.one i r hi hr hir)
theorem red_sum {n c : Nat} {a b o : Nat → Int} {g : Nat} (h : ∀ i, i < n → (g : Int) * o i = a i * b c - b i * a c) (w : Nat → Int) :
    (g : Int) * sumN (fun i => o i * w i) n = b c * sumN (fun i => a i * w i) n - a c * sumN (fun i => b i * w i) n := by
  rw [← sumN_mul, ← sumN_mul, ← sumN_mul, ← sumN_sub]
  refine sumN_congr fun i hi => ?_
  rw [← Int.mul_assoc, h i hi, Int.sub_mul, ← Int.mul_assoc, ← Int.mul_assoc, Int.mul_comm (b c), Int.mul_comm (a c)]
theorem abs_le_of {g : Nat} {o z : Int} (hg : 1 ≤ g) (h : (g : Int) * o = z) {B : Nat} (hz : z.natAbs ≤ B) : o.natAbs ≤ B := by
  have h1 : g * o.natAbs = z.natAbs := by rw [← h, Int.natAbs_mul, Int.natAbs_natCast]
  have h2 : 1 * o.natAbs ≤ g * o.natAbs := Nat.mul_le_mul_right _ hg
  omega
theorem abs_det {x y z u : Int} {X Y Z U : Nat} (h1 : x.natAbs ≤ X) (h2 : y.natAbs ≤ Y) (h3 : z.natAbs ≤ Z) (h4 : u.natAbs ≤ U) : (x * y - z * u).natAbs ≤ X * Y + Z * U := by
  have e1 : (x * y).natAbs ≤ X * Y := by rw [Int.natAbs_mul]; exact Nat.mul_le_mul h1 h2
  have e2 : (z * u).natAbs ≤ Z * U := by rw [Int.natAbs_mul]; exact Nat.mul_le_mul h3 h4
  omega
theorem bnd_sq : ∀ c, c < 6 → 2 ≤ c → 2 * (bndG c * bndG c) ≤ bndG (c + 1) := by decide
theorem bnd_mono : ∀ c, c < 6 → 2 * bndG c ≤ bndG (c + 1) := by decide
theorem red_bd {A M : Nat → Nat → Int} {n c : Nat} (h : GsS A n c M) (hc : c + 1 < n) (h7 : n ≤ 7) {s p i : Nat} (hs : s < n) (hp : p < n) (hi : i < n) :
    (M s i * M p c - M p i * M s c).natAbs ≤ bndG (c + 1) := by
  by_cases h1 : c ≤ 1
  · have := abs_det (h.bd s i hs hi) (h.col h1 (by omega) p hp) (h.bd p i hp hi) (h.col h1 (by omega) s hs)
    have := bnd_mono c (by omega)
    omega
  · have := abs_det (h.bd s i hs hi) (h.bd p c hp (by omega)) (h.bd p i hp hi) (h.bd s c hs (by omega))
    have := bnd_sq c (by omega) (by omega)
    omega
theorem gs_step {A M M' : Nat → Nat → Int} {n c p : Nat} (hA : SkT A n) (h : GsS A n c M) (hc : c + 1 < n) (h7 : n ≤ 7) (hcp : c ≤ p) (hp : p < n) (hpc : M p c ≠ 0) (hfirst : ∀ q, c ≤ q → q < p → M q c = 0)
    (h1 : ∀ i, i < n → M' c i = M p i)
    (h2 : ∀ r, r < n → r ≠ c → (M (if r = p then c else r) c = 0 → ∀ i, i < n → M' r i = M (if r = p then c else r) i) ∧ (M (if r = p then c else r) c ≠ 0 → RedP n (M (if r = p then c else r)) (M p) c (M' r))) : GsS A n (c + 1) M' := by
  have hs : ∀ r, r < n → r ≠ c → ∃ s, s < n ∧ s = (if r = p then c else r) ∧ s ≠ p := fun r hr hrc => by
    by_cases e : r = p
    · exact ⟨c, by omega, by rw [if_pos e], by omega⟩
    · exact ⟨r, hr, by rw [if_neg e], e⟩
  refine ⟨?_, ?_, ?_, ?_, ?_, ?_, fun h => absurd h (by omega), ?_⟩
  · intro w hw r hr
    by_cases hrc : r = c
    · subst hrc
      rw [sumN_congr (g := fun i => M p i * w i) fun i hi => by rw [h1 i hi]]
      exact h.sol w hw p hp
    · obtain ⟨s, hsn, hse, -⟩ := hs r hr hrc
      obtain ⟨q1, q2⟩ := h2 r hr hrc
      rw [← hse] at q1 q2
      by_cases q : M s c = 0
      · rw [sumN_congr (g := fun i => M s i * w i) fun i hi => by rw [q1 q i hi]]
        exact h.sol w hw s hsn
      · obtain ⟨⟨g, hg, hgo⟩, -⟩ := q2 q
        have := red_sum hgo w
        rw [h.sol w hw s hsn, h.sol w hw p hp, Int.mul_zero, Int.mul_zero, Int.sub_zero] at this
        rcases Int.mul_eq_zero.1 this with e | e
        · omega
        · exact e
  · intro w hw
    have hpz : sumN (fun i => M p i * w i) n = 0 := by
      rw [← sumN_congr (f := fun i => M' c i * w i) fun i hi => by rw [h1 i hi]]
      exact hw c (by omega)
    refine h.los w fun t ht => ?_
    by_cases htp : t = p
    · subst htp; exact hpz
    · obtain ⟨r, hr, hrc, hrt⟩ : ∃ r, r < n ∧ r ≠ c ∧ t = (if r = p then c else r) := by
        by_cases e : t = c
        · exact ⟨p, hp, fun e2 => htp (by omega), by rw [if_pos rfl]; exact e⟩
        · exact ⟨t, ht, e, by rw [if_neg htp]⟩
      obtain ⟨q1, q2⟩ := h2 r hr hrc
      rw [← hrt] at q1 q2
      by_cases q : M t c = 0
      · rw [← sumN_congr (f := fun i => M' r i * w i) fun i hi => by rw [q1 q i hi]]
        exact hw r hr
      · obtain ⟨⟨g, hg, hgo⟩, -⟩ := q2 q
        have := red_sum hgo w
        rw [hw r hr, hpz, Int.mul_zero, Int.mul_zero, Int.sub_zero] at this
        rcases Int.mul_eq_zero.1 this.symm with e | e
        · exact absurd e hpc
        · exact e
  · intro r j hr hj hjc hjr
    by_cases hrc : r = c
    · subst hrc
      rw [h1 j hj]
      exact h.zero p j hp hj (by omega) (by omega)
    · obtain ⟨s, hsn, hse, hsp⟩ := hs r hr hrc
      obtain ⟨q1, q2⟩ := h2 r hr hrc
      rw [← hse] at q1 q2
      have hjs : j < c → M s j = 0 ∧ M p j = 0 := fun hj' => ⟨h.zero s j hsn hj hj' (by
        rw [hse]; split
        · omega
        · exact hjr), h.zero p j hp hj hj' (by omega)⟩
      by_cases q : M s c = 0
      · rw [q1 q j hj]
        by_cases e : j = c
        · subst e; exact q
        · exact (hjs (by omega)).1
      · obtain ⟨⟨g, hg, hgo⟩, -⟩ := q2 q
        have := hgo j hj
        have hz : M s j * M p c - M p j * M s c = 0 := by
          by_cases e : j = c
          · subst e; rw [Int.mul_comm]; omega
          · obtain ⟨e1, e2⟩ := hjs (by omega)
            rw [e1, e2]; simp
        rw [hz] at this
        rcases Int.mul_eq_zero.1 this with e | e
        · omega
        · exact e
  · intro r hr
    by_cases hrc : r = c
    · subst hrc
      rw [h1 r (by omega)]; exact hpc
    · obtain ⟨q1, q2⟩ := h2 r (by omega) hrc
      rw [if_neg (by omega)] at q1 q2
      have hp0 := h.piv r (by omega)
      by_cases q : M r c = 0
      · rw [q1 q r (by omega)]; exact hp0
      · obtain ⟨⟨g, hg, hgo⟩, -⟩ := q2 q
        have := hgo r (by omega)
        rw [h.zero p r hp (by omega) (by omega) (by omega), Int.zero_mul, Int.sub_zero] at this
        intro e
        rw [e, Int.mul_zero] at this
        rcases Int.mul_eq_zero.1 this.symm with e1 | e1
        · exact hp0 e1
        · exact hpc e1
  · intro r i hr hi
    have hmono := bnd_mono c (by omega)
    by_cases hrc : r = c
    · subst hrc
      rw [h1 i hi]
      have := h.bd p i hp hi
      omega
    · obtain ⟨s, hsn, hse, -⟩ := hs r hr hrc
      obtain ⟨q1, q2⟩ := h2 r hr hrc
      rw [← hse] at q1 q2
      by_cases q : M s c = 0
      · rw [q1 q i hi]
        have := h.bd s i hsn hi
        omega
      · obtain ⟨⟨g, hg, hgo⟩, -⟩ := q2 q
        exact abs_le_of hg (hgo i hi) (red_bd h hc h7 hsn hp hi)
  · intro hc1 _ r hr
    obtain rfl : c = 0 := by omega
    have hini := h.ini rfl
    have hp1 : p = 1 := by
      have a0 : p ≠ 0 := fun e => hpc (by subst e; rw [hini 0 0 hp hp]; exact hA.diag 0 hp)
      refine Nat.le_antisymm (Nat.le_of_not_lt fun h' => ?_) (by omega)
      have := hfirst 1 (by omega) h'
      rw [hini 1 0 (by omega) (by omega)] at this
      rcases hA.one 0 1 (by omega) (by omega) (by omega) with e | e <;> omega
    subst hp1
    have h11 : M 1 1 = 0 := by rw [hini 1 1 (by omega) (by omega)]; exact hA.diag 1 (by omega)
    by_cases hrc : r = 0
    · subst hrc
      rw [h1 1 (by omega), h11]; decide
    · obtain ⟨s, hsn, hse, -⟩ := hs r hr hrc
      obtain ⟨q1, q2⟩ := h2 r hr hrc
      rw [← hse] at q1 q2
      have hb := h.bd s 1 hsn (by omega)
      by_cases q : M s 0 = 0
      · rw [q1 q 1 (by omega)]; exact hb
      · obtain ⟨⟨g, hg, hgo⟩, -⟩ := q2 q
        have := hgo 1 (by omega)
        refine abs_le_of hg this ?_
        rw [h11, Int.zero_mul, Int.sub_zero, Int.natAbs_mul]
        have := Nat.mul_le_mul hb (h.col (by omega) (by omega) 1 (by omega))
        exact this
  · intro r hr
    by_cases hrc : r = c
    · subst hrc
      intro d hd
      rcases h.prim p hp d (fun i hi => by rw [← h1 i hi]; exact hd i hi) with e | e
      · exact .inl e
      · exact .inr fun i hi => by rw [h1 i hi]; exact e i hi
    · obtain ⟨s, hsn, hse, -⟩ := hs r hr hrc
      obtain ⟨q1, q2⟩ := h2 r hr hrc
      rw [← hse] at q1 q2
      by_cases q : M s c = 0
      · intro d hd
        rcases h.prim s hsn d (fun i hi => by rw [← q1 q i hi]; exact hd i hi) with e | e
        · exact .inl e
        · exact .inr fun i hi => by rw [q1 q i hi]; exact e i hi
      · exact (q2 q).2
def prodZ (f : Nat → Int) : Nat → Int
  | 0 => 1
  | k + 1 => prodZ f k * f k
theorem prod_nz {f : Nat → Int} : ∀ {k}, (∀ i, i < k → f i ≠ 0) → prodZ f k ≠ 0 := by
  intro k
  induction k with
  | zero => intro _; show (1 : Int) ≠ 0; decide
  | succ k ih =>
    intro h e
    rcases Int.mul_eq_zero.1 e with e | e
    · exact ih (fun i hi => h i (by omega)) e
    · exact h k (by omega) e
theorem prod_dvd {f : Nat → Int} {i : Nat} : ∀ {k}, i < k → ∃ q, f i * q = prodZ f k := by
  intro k
  induction k with
  | zero => intro h; omega
  | succ k ih =>
    intro h
    by_cases e : i = k
    · subst e; exact ⟨prodZ f i, Int.mul_comm _ _⟩
    · obtain ⟨q, hq⟩ := ih (by omega)
      exact ⟨q * f k, by rw [← Int.mul_assoc, hq]; rfl⟩
/-- there is a pivot in each column but the last one -/
theorem gs_piv {A M : Nat → Nat → Int} {n c : Nat} (hA : SkT A n) (h : GsS A n c M) (hc : c + 1 < n) : ∃ p, c ≤ p ∧ p < n ∧ M p c ≠ 0 := by
  refine Classical.byContradiction fun hno => ?_
  have hz : ∀ q, c ≤ q → q < n → M q c = 0 := fun q h1 h2 => Classical.byContradiction fun e => hno ⟨q, h1, h2, e⟩
  obtain ⟨P, hP⟩ : ∃ P, P = prodZ (fun r => M r r) c := ⟨_, rfl⟩
  have hP0 : P ≠ 0 := by rw [hP]; exact prod_nz fun i hi => h.piv i hi
  have hq : ∀ i, ∃ q, i < c → M i i * q = P := fun i => by
    by_cases hi : i < c
    · obtain ⟨q, hq⟩ := prod_dvd (f := fun r => M r r) hi
      exact ⟨q, fun _ => by rw [hP]; exact hq⟩
    · exact ⟨0, fun h => absurd h hi⟩
  obtain ⟨q, hq⟩ := Classical.axiomOfChoice hq
  have hw : kerV A n fun i => if i < c then -(M i c) * q i else if i = c then P else 0 := by
    refine h.los _ fun r hr => ?_
    by_cases hrc : r < c
    · rw [sumN_two (a := r) (b := c) hr (by omega) (by omega) (fun k hk h1 h2 => ?_)]
      · rw [if_pos hrc, if_neg (by omega), if_pos rfl]
        have := hq r hrc
        rw [Int.neg_mul, Int.mul_neg, ← Int.mul_assoc, Int.mul_comm (M r r), Int.mul_assoc, this]
        omega
      · by_cases e : k < c
        · rw [h.zero r k hr hk e h1, Int.zero_mul]
        · rw [if_neg e, if_neg h2, Int.mul_zero]
    · refine sumN_zero' fun k hk => ?_
      by_cases e : k < c
      · rw [h.zero r k hr hk e (by omega), Int.zero_mul]
      · rw [if_neg e]
        split
        · rename_i e2; subst e2; rw [hz r (by omega) hr, Int.zero_mul]
        · exact Int.mul_zero _
  have := ker_zero hA hw (a0 := n - 1) (by omega) (by rw [if_neg (by omega), if_neg (by omega)]) c (by omega)
  rw [if_neg (by omega), if_pos rfl] at this
  exact hP0 this
/-- behind the last pivot: each row tells one entry by the last one -/
theorem gs_end {A M : Nat → Nat → Int} {n : Nat} (hA : SkT A n) (hodd : n % 2 = 1) (h7 : n ≤ 7) (h : GsS A n (n - 1) M) :
    M (n - 1) (n - 1) = 0 ∧ ∀ r, r < n - 1 → M r r ≠ 0 ∧ M r r * pfV A n r = -(M r (n - 1)) * pfV A n (n - 1) ∧ (M r r) ∣ pfV A n (n - 1) ∧ (M r r).natAbs ≤ 15 ∧ (M r (n - 1)).natAbs ≤ 15 := by
  have hk := pf_ker hA hodd h7
  have hv := fun i (hi : i < n) => pfV_facts hA hodd h7 hi
  have hlast := hv (n - 1) (by omega)
  constructor
  · have h1 := h.sol _ hk (n - 1) (by omega)
    rw [sumN_one (a := n - 1) (by omega) fun k hk1 h2 => by rw [h.zero (n - 1) k (by omega) hk1 (by omega) h2, Int.zero_mul]] at h1
    rcases Int.mul_eq_zero.1 h1 with e | e
    · exact e
    · omega
  · intro r hr
    have hp := h.piv r hr
    have hvr := hv r (by omega)
    have h1 := h.sol _ hk r (by omega)
    rw [sumN_two (a := r) (b := n - 1) (by omega) (by omega) (by omega) fun k hk1 h2 h3 => by rw [h.zero r k (by omega) hk1 (by omega) h2, Int.zero_mul]] at h1
    have h2 : M r r * pfV A n r = -(M r (n - 1)) * pfV A n (n - 1) := by rw [Int.neg_mul]; omega
    have hcop : Nat.Coprime (M r r).natAbs (M r (n - 1)).natAbs := by
      rcases h.prim r (by omega) (Nat.gcd (M r r).natAbs (M r (n - 1)).natAbs) (fun i hi => by
        by_cases e1 : i = r
        · subst e1; exact Int.ofNat_dvd_left.2 (Nat.gcd_dvd_left _ _)
        · by_cases e2 : i = n - 1
          · subst e2; exact Int.ofNat_dvd_left.2 (Nat.gcd_dvd_right _ _)
          · rw [h.zero r i (by omega) hi (by omega) e1]; exact Int.dvd_zero _) with e | e
      · exact e
      · exact absurd (e r (by omega)) hp
    have habs : (M r r).natAbs * (pfV A n r).natAbs = (M r (n - 1)).natAbs * (pfV A n (n - 1)).natAbs := by
      have := congrArg Int.natAbs h2
      rwa [Int.natAbs_mul, Int.natAbs_mul, Int.natAbs_neg] at this
    have hd1 : (M r r).natAbs ∣ (pfV A n (n - 1)).natAbs := hcop.dvd_of_dvd_mul_left (habs ▸ Nat.dvd_mul_right _ _)
    have hd2 : (M r (n - 1)).natAbs ∣ (pfV A n r).natAbs := hcop.symm.dvd_of_dvd_mul_left (habs ▸ Nat.dvd_mul_right _ _)
    refine ⟨hp, h2, Int.natAbs_dvd_natAbs.1 hd1, ?_, ?_⟩
    · have := Nat.le_of_dvd (by omega) hd1; omega
    · have := Nat.le_of_dvd (by omega) hd2; omega
end Go.Proofs.YtbkiedhaacapbaaGreat

namespace Go.Proofs.YtbkiedhaacapbaaGreat
open Go.RowKit Go.Sort
set_option maxRecDepth 100000
def redX (xs ys : List Int) (c i : Nat) : Int := xs.getD i 0 * ys.getD c 0 - ys.getD i 0 * xs.getD c 0
def redO (xs ys : List Int) (c k : Nat) : List Int := (List.range k).map (redX xs ys c)
theorem redO_succ (xs ys : List Int) (c k : Nat) : redO xs ys c (k + 1) = redO xs ys c k ++ [redX xs ys c k] := by simp [redO, List.range_succ]
theorem redO_len (xs ys : List Int) (c k : Nat) : (redO xs ys c k).length = k := by simp [redO]
def gcdA (l : List Int) : Nat := l.foldl (fun g x => Nat.gcd g x.natAbs) 0
theorem gcdA_snoc (l : List Int) (x : Int) : gcdA (l ++ [x]) = Nat.gcd (gcdA l) x.natAbs := by simp [gcdA]
def redL (xs ys : List Int) (c : Nat) : List Int := if 1 < gcdA (redO xs ys c xs.length) then (redO xs ys c xs.length).map fun x => x.tdiv (gcdA (redO xs ys c xs.length)) else redO xs ys c xs.length
theorem redX_bd {xs ys : List Int} {c i : Nat} {B : Nat} (hx : ∀ j, (xs.getD j 0).natAbs ≤ B) (hy : ∀ j, (ys.getD j 0).natAbs ≤ B) : (xs.getD i 0 * ys.getD c 0).natAbs ≤ B * B ∧ (ys.getD i 0 * xs.getD c 0).natAbs ≤ B * B ∧ (redX xs ys c i).natAbs ≤ 2 * (B * B) := by
  have e1 : (xs.getD i 0 * ys.getD c 0).natAbs ≤ B * B := by rw [Int.natAbs_mul]; exact Nat.mul_le_mul (hx i) (hy c)
  have e2 : (ys.getD i 0 * xs.getD c 0).natAbs ≤ B * B := by rw [Int.natAbs_mul]; exact Nat.mul_le_mul (hy i) (hx c)
  refine ⟨e1, e2, ?_⟩
  unfold redX
  omega
theorem gcdA_le {B : Nat} : ∀ {l : List Int}, (∀ x ∈ l, x.natAbs ≤ B) → gcdA l ≤ B := by
  have : ∀ (l : List Int) (g : Nat), g ≤ B → (∀ x ∈ l, x.natAbs ≤ B) → l.foldl (fun g x => Nat.gcd g x.natAbs) g ≤ B := by
    intro l
    induction l with
    | nil => intro g h _; exact h
    | cons x l ih => intro g h hx; exact ih _ (gcd_le_bd h (hx x (by simp))) fun y hy => hx y (by simp [hy])
  intro l h
  exact this l 0 (Nat.zero_le _) h
theorem rd_cell0 {w : World} {g off c n : Nat} {L : List Int} (h : Rd w (.slice (some ⟨g, off, none⟩) n c) L) (hl : L.length = n) {i : Nat} (hi : i < n) : w.cell? ⟨g, off + i, none⟩ = some (.int .i64 (L.getD i 0)) := by
  obtain ⟨A', c', e, -, -, hx⟩ := h
  injection e with e1 _ _
  subst e1
  obtain ⟨g', off', e', -, hc⟩ := hx (by omega)
  injection e' with e'
  injection e' with e1 e2 _
  subst e1 e2
  exact hc i (by omega)
theorem tdiv_bd {x G : Int} (h1 : -140737488355328 ≤ x) (h2 : x ≤ 140737488355328) : -9223372036854775808 ≤ x.tdiv G ∧ x.tdiv G ≤ 9223372036854775807 := by
  have := Int.natAbs_tdiv_le_natAbs x G
  omega
end Go.Proofs.YtbkiedhaacapbaaGreat

namespace Go.Proofs.YtbkiedhaacapbaaGreat
set_option maxRecDepth 100000
theorem gcdA_dvd : ∀ {l : List Int} {x : Int}, x ∈ l → gcdA l ∣ x.natAbs := by
  have : ∀ (l : List Int) (g : Nat), l.foldl (fun g x => Nat.gcd g x.natAbs) g ∣ g ∧ ∀ x ∈ l, l.foldl (fun g x => Nat.gcd g x.natAbs) g ∣ x.natAbs := by
    intro l
    induction l with
    | nil => intro g; exact ⟨Nat.dvd_refl _, fun x h => by cases h⟩
    | cons y l ih =>
      intro g
      obtain ⟨h1, h2⟩ := ih (Nat.gcd g y.natAbs)
      refine ⟨Nat.dvd_trans h1 (Nat.gcd_dvd_left _ _), fun x hx => ?_⟩
      rw [List.mem_cons] at hx
      rcases hx with rfl | hx
      · exact Nat.dvd_trans h1 (Nat.gcd_dvd_right _ _)
      · exact h2 x hx
  intro l x hx
  exact (this l 0).2 x hx
theorem gcdA_great {d : Nat} : ∀ {l : List Int}, (∀ x ∈ l, d ∣ x.natAbs) → d ∣ gcdA l := by
  have : ∀ (l : List Int) (g : Nat), d ∣ g → (∀ x ∈ l, d ∣ x.natAbs) → d ∣ l.foldl (fun g x => Nat.gcd g x.natAbs) g := by
    intro l
    induction l with
    | nil => intro g h _; exact h
    | cons y l ih => intro g h hx; exact ih _ (Nat.dvd_gcd h (hx y (by simp))) fun x hx' => hx x (by simp [hx'])
  intro l h
  exact this l 0 (Nat.dvd_zero _) h
theorem redL_len (xs ys : List Int) (c : Nat) : (redL xs ys c).length = xs.length := by
  unfold redL
  split <;> simp [redO_len]
theorem redL_P {xs ys : List Int} {n c : Nat} (hn : xs.length = n) : RedP n (fun i => xs.getD i 0) (fun i => ys.getD i 0) c (fun i => (redL xs ys c).getD i 0) := by
  obtain ⟨o, ho⟩ : ∃ o, o = redO xs ys c n := ⟨_, rfl⟩
  have hol : o.length = n := by rw [ho]; exact redO_len _ _ _ _
  have hoi : ∀ i, i < n → o.getD i 0 = xs.getD i 0 * ys.getD c 0 - ys.getD i 0 * xs.getD c 0 := fun i hi => by rw [ho]; simp [redO, hi, redX]
  have hmem : ∀ i, i < n → o.getD i 0 ∈ o := fun i hi => by
    have e : o.getD i 0 = o[i]'(by omega) := by simp [show i < o.length by omega]
    rw [e]; exact List.getElem_mem _
  have hall : ∀ x ∈ o, ∃ i, i < n ∧ x = o.getD i 0 := fun x hx => by
    obtain ⟨i, hi, rfl⟩ := List.getElem_of_mem hx
    exact ⟨i, by omega, by simp [hi]⟩
  have hdv : ∀ i, i < n → ((gcdA o : Nat) : Int) ∣ o.getD i 0 := fun i hi => Int.ofNat_dvd_left.2 (gcdA_dvd (hmem i hi))
  have hR : redL xs ys c = if 1 < gcdA o then o.map fun x => x.tdiv (gcdA o) else o := by unfold redL; rw [hn, ← ho]
  by_cases h1 : 1 < gcdA o
  · have hRi : ∀ i, i < n → (gcdA o : Int) * (redL xs ys c).getD i 0 = o.getD i 0 := fun i hi => by
      have e : (redL xs ys c).getD i 0 = (o.getD i 0).tdiv (gcdA o) := by rw [hR, if_pos h1]; simp [show i < o.length by omega]
      rw [e]
      exact Int.mul_tdiv_cancel' (hdv i hi)
    refine ⟨⟨gcdA o, by omega, fun i hi => by rw [← hoi i hi]; exact hRi i hi⟩, fun d hd => .inl ?_⟩
    have hgd : gcdA o * d ∣ gcdA o := gcdA_great fun x hx => by
      obtain ⟨i, hi, rfl⟩ := hall x hx
      obtain ⟨q, hq⟩ := hd i hi
      dsimp only at hq
      have : ((gcdA o * d : Nat) : Int) ∣ o.getD i 0 := ⟨q, by rw [← hRi i hi, hq, Int.natCast_mul, Int.mul_assoc]⟩
      exact Int.ofNat_dvd_left.1 this
    have := Nat.le_of_dvd (by omega) hgd
    have h0 : d ≠ 0 := fun e => by subst e; rw [Nat.mul_zero] at hgd; have := Nat.eq_zero_of_zero_dvd hgd; omega
    refine Classical.byContradiction fun hne => ?_
    have : gcdA o * 2 ≤ gcdA o * d := Nat.mul_le_mul_left _ (by omega)
    omega
  · have hRi : ∀ i, i < n → (redL xs ys c).getD i 0 = o.getD i 0 := fun i _ => by rw [hR, if_neg h1]
    refine ⟨⟨1, by omega, fun i hi => by dsimp only; rw [hRi i hi, hoi i hi]; omega⟩, fun d hd => ?_⟩
    by_cases h0 : gcdA o = 0
    · right
      intro i hi
      have := hdv i hi
      rw [h0] at this
      dsimp only
      rw [hRi i hi]
      exact Int.zero_dvd.1 this
    · left
      have hgd : d ∣ gcdA o := gcdA_great fun x hx => by
        obtain ⟨i, hi, rfl⟩ := hall x hx
        have := hd i hi
        dsimp only at this
        rw [hRi i hi] at this
        exact Int.ofNat_dvd_left.1 this
      have := Nat.le_of_dvd (by omega) hgd
      have hd0 : d ≠ 0 := fun e => by subst e; have := Nat.eq_zero_of_zero_dvd hgd; omega
      omega
end Go.Proofs.YtbkiedhaacapbaaGreat

namespace Go.Proofs.YtbkiedhaacapbaaGreat
open Go.RowKit Go.Sort
set_option maxRecDepth 100000
theorem wp_append1at2 {ops : Array Oper} {rest : List Oper} {o : Oper} {a : Act} {Q : Exit → Act → World → Prop} (w : World) (hgd : o.guard = none) (s x : Operand)
    (ho : o.op = .call { callee := .builtin .append, args := #[s, x], argTypes := #[23, 23] })
    (base : Nat) (v : Value) (xs : List Int) (y : Int) (hs : a.eval s = v) (hown : Own w base v xs) (hx : a.eval x = .slice (some ⟨w.heap.size, 0, none⟩) 1 1)
    (hlen : xs.length ≤ 1099511627776) (hbase : base ≤ w.heap.size)
    (h : ∀ v' w', Own w' base v' (xs ++ [y]) → w.grownBy w' v.ownBlock → (v'.ownBlock = v.ownBlock ∨ ∃ k, v'.ownBlock = some k ∧ w.heap.size ≤ k) → wpList Tryz.prog ops Q rest (a.put o.dst v') w') :
    wpList Tryz.prog ops Q (o :: rest) a (w.alloc (.cells #[.int .i64 y] 3)) := by
  obtain ⟨i0, hi, hz0, hz1, hz2⟩ := info_parts i64_info
  have hown' : (w.alloc (.cells #[.int .i64 y] 3)).ownsRow base 3 1 v xs.length (xs.map (Value.int .i64)) := World.ownsRow.alloc hown _
  refine wpList_append_own_at _ hgd s x 23 ho base 3 i0 (.int .i64 0) 1 8 Tryz.underlying23 hi hz0 hz1 hz2 rfl (by decide) v xs.length (xs.map (Value.int .i64)) hs hown' ⟨w.heap.size, 0, none⟩ 1 1 [.int .i64 y] hx rfl ?_ ?_ ?_ ?_ ?_ ?_
  · intro j u hj
    match j, hj with
    | 0, hj => simp at hj; subst hj; simp [Addr.add]
  · intro u hu; simp at hu; subst hu; rfl
  · unfold maxLen; omega
  · omega
  · simp; omega
  · intro v' w' h1 h2 _ h4
    refine h v' w' ?_ (grown_of_alloc h2) (h4.imp id fun e => ⟨_, e, by simp⟩)
    unfold Own
    rw [List.length_append, List.map_append]
    exact h1
def Own2U (w : World) (bo bi : Nat) (v : Value) (us : List Value) (rows : List (List Int)) : Prop :=
  us.length = rows.length ∧ w.ownsRow bo 23 1 v rows.length us ∧ (∀ k, k < rows.length → Own w bi (us.getD k (.slice none 0 0)) (rows.getD k [])) ∧
    ∀ i j, i < j → j < rows.length → (us.getD i (.slice none 0 0)).ownBlock = none ∨ (us.getD i (.slice none 0 0)).ownBlock ≠ (us.getD j (.slice none 0 0)).ownBlock
def Own2 (w : World) (bo bi : Nat) (v : Value) (rows : List (List Int)) : Prop := ∃ us : List Value, Own2U w bo bi v us rows
theorem Own2.nil_ (w : World) (bo bi : Nat) : Own2 w bo bi (.slice none 0 0) [] := ⟨[], rfl, World.ownsRow_nil _ _ _ _, fun k h => absurd h (by simp), fun i j _ h => absurd h (by simp)⟩
theorem Own2.lit0 (w : World) (bo bi : Nat) (hb : bo ≤ w.heap.size) : Own2 (w.alloc (.cells #[] 23)) bo bi (.slice (some ⟨w.heap.size, 0, none⟩) 0 0) [] := by
  have := World.ownsRow_lit (e := 23) (size := 1) w #[] 0 hb (by unfold maxLen; omega) (by simp)
  exact ⟨[], rfl, by simpa using this, fun k h => absurd h (by simp), fun i j _ h => absurd h (by simp)⟩
theorem Own2.below {w w' : World} {bo bi : Nat} {v : Value} {rows : List (List Int)} (h : Own2 w bo bi v rows) (hb : Below w.heap.size w w') : Own2 w' bo bi v rows := by
  obtain ⟨us, hl, ho, hr, hd⟩ := h
  exact ⟨us, hl, ownsRow_below ho hb, fun k hk => (hr k hk).below hb, hd⟩
theorem Own2.rows {w : World} {bo bi b : Nat} {v : Value} {rows : List (List Int)} (h : Own2 w bo bi v rows) (h1 : b ≤ bo) (h2 : b ≤ bi) : OwnRows w b v rows := by
  obtain ⟨us, hl, ho, hr, hd⟩ := h
  exact ⟨us, hl, ownsRow_mono ho h1, fun k hk => (hr k hk).mono h2, hd⟩
theorem Own2.form {w : World} {bo bi : Nat} {v : Value} {rows : List (List Int)} (h : Own2 w bo bi v rows) : ∃ A c, v = .slice A rows.length c ∧ c ≤ maxLen ∧ rows.length ≤ c ∧
    (0 < rows.length → ∃ g, A = some ⟨g, 0, none⟩ ∧ bo ≤ g ∧ g < w.heap.size) := by
  obtain ⟨us, hl, ho, hr, -⟩ := h
  have hlt := World.ownsRow.lt ho
  rcases ho.2 with ⟨rfl, e⟩ | ⟨g, cap, cur, rfl, hb, hg, hle, hm, _⟩
  · exact ⟨none, 0, by rw [e], by unfold maxLen; omega, by omega, fun h => absurd h (by omega)⟩
  · exact ⟨_, cap, rfl, hm, hle, fun _ => ⟨g, rfl, hlt g rfl⟩⟩
/-- the cell of one row -/
theorem Own2U.cell {w : World} {bo bi g n c : Nat} {us : List Value} {rows : List (List Int)} (h : Own2U w bo bi (.slice (some ⟨g, 0, none⟩) n c) us rows) (hn : rows.length = n) {k : Nat} (hk : k < rows.length) :
    w.cell? ⟨g, k, none⟩ = some (us.getD k (.slice none 0 0)) ∧ w.frozen? ⟨g, k, none⟩ = false := by
  subst hn
  obtain ⟨hl, ho, hr, hd⟩ := h
  have h1 := World.ownsRow.cells ho (g := g) rfl k (us.getD k (.slice none 0 0)) (by simp [show k < us.length by omega])
  rw [Addr.add_lit, Nat.zero_add] at h1
  exact ⟨h1, World.ownsRow.frozenAt ho k⟩
/-- an append to one row goes back into its place -/
theorem Own2U.put {w w1 : World} {bo bi g n c : Nat} {us : List Value} {rows : List (List Int)} (h : Own2U w bo bi (.slice (some ⟨g, 0, none⟩) n c) us rows) (hn : rows.length = n) {i : Nat} (hi : i < rows.length) {u' : Value} {ys : List Int}
    (ho' : Own w1 bi u' ys) (hg : w.grownBy w1 (us.getD i (.slice none 0 0)).ownBlock) (hat : u'.ownBlock = (us.getD i (.slice none 0 0)).ownBlock ∨ ∃ k, u'.ownBlock = some k ∧ w.heap.size ≤ k) :
    Own2U (w1.setCell ⟨g, i, none⟩ u') bo bi (.slice (some ⟨g, 0, none⟩) n c) (us.set i u') (rows.set i ys) ∧ w1.grownBy (w1.setCell ⟨g, i, none⟩ u') (some g) := by
  subst hn
  obtain ⟨hl, ho, hr, hd⟩ := h
  have ho1 : w1.ownsRow bo 23 1 (.slice (some ⟨g, 0, none⟩) rows.length c) rows.length us := World.ownsRow.kept ho hg (apart_symm' (types_part (hr i hi) ho (by decide)))
  have hst := World.ownsRow.stored ho1 i u'
  have hap : u'.ownBlock = none ∨ u'.ownBlock ≠ some g := by
    have := types_part ho' ho1 (by decide)
    simpa [Value.ownBlock] using this
  refine ⟨⟨by simp [hl], ?_, fun k hk => ?_, fun a b hab hb => ?_⟩, hst.2⟩
  · rw [List.length_set]
    exact hst.1
  · rw [List.length_set] at hk
    by_cases hik : i = k
    · subst hik
      rw [show (rows.set i ys).getD i [] = ys by simp [List.getD_eq_getElem?_getD, hk], show (us.set i u').getD i (.slice none 0 0) = u' by simp [List.getD_eq_getElem?_getD, show i < us.length by omega]]
      exact ho'.kept hst.2 hap
    · rw [show (rows.set i ys).getD k [] = rows.getD k [] by simp [List.getD_eq_getElem?_getD, List.getElem?_set_ne hik], show (us.set i u').getD k (.slice none 0 0) = us.getD k (.slice none 0 0) by simp [List.getD_eq_getElem?_getD, List.getElem?_set_ne hik]]
      have h1 : Own w1 bi (us.getD k (.slice none 0 0)) (rows.getD k []) := by
        refine (hr k hk).kept hg ?_
        rcases Nat.lt_or_gt_of_ne hik with q | q
        · exact apart_symm' (hd i k q hk)
        · exact hd k i q hi
      refine h1.kept hst.2 ?_
      have := types_part h1 ho1 (by decide)
      simpa [Value.ownBlock] using this
  · rw [List.length_set] at hb
    have key : ∀ k, k ≠ i → k < rows.length → (us.getD k (.slice none 0 0)).ownBlock = none ∨ (us.getD k (.slice none 0 0)).ownBlock ≠ u'.ownBlock := by
      intro k hki hk
      rcases hat with e | ⟨z, e, hz⟩
      · rw [e]
        rcases Nat.lt_or_gt_of_ne hki with q | q
        · exact hd k i q hi
        · exact apart_symm' (hd i k q hk)
      · rw [e]
        rcases q : (us.getD k (.slice none 0 0)).ownBlock with _ | x
        · exact .inl rfl
        · right
          intro e2
          have h3 := ((hr k hk).lt x q).2
          injection e2 with e2
          omega
    have ei : (us.set i u').getD i (.slice none 0 0) = u' := by simp [List.getD_eq_getElem?_getD, show i < us.length by omega]
    have en : ∀ k, k ≠ i → (us.set i u').getD k (.slice none 0 0) = us.getD k (.slice none 0 0) := fun k hk => by simp [List.getD_eq_getElem?_getD, List.getElem?_set_ne (Ne.symm hk)]
    by_cases h1 : a = i
    · subst h1
      rw [ei, en b (by omega)]
      exact apart_symm' (key b (by omega) hb)
    · by_cases h2 : b = i
      · subst h2
        rw [ei, en a h1]
        exact key a h1 (by omega)
      · rw [en a h1, en b h2]
        exact hd a b hab hb
theorem wp_append2V {ops : Array Oper} {rest : List Oper} {o : Oper} {a : Act} {Q : Exit → Act → World → Prop} (w : World) (hgd : o.guard = none) (s x : Operand)
    (ho : o.op = .call { callee := .builtin .append, args := #[s, x], argTypes := #[97, 97] })
    (bo bi : Nat) (v : Value) (rows : List (List Int)) (u : Value) (xs : List Int) (w0 : World) (hs : a.eval s = v) (hown0 : Own2 w0 bo bi v rows) (hb0 : Below w0.heap.size w0 w) (hu0 : Own w w0.heap.size u xs) (hbo0 : bo ≤ w0.heap.size) (hbi0 : bi ≤ w0.heap.size) (hx : a.eval x = .slice (some ⟨w.heap.size, 0, none⟩) 1 1)
    (hlen : rows.length ≤ 1048576)
    (h : ∀ v' w', Own2 w' bo bi v' (rows ++ [xs]) → w.grownBy w' v.ownBlock → wpList Tryz.prog ops Q rest (a.put o.dst v') w') :
    wpList Tryz.prog ops Q (o :: rest) a (w.alloc (.cells #[u] 23)) := by
  obtain ⟨i0, hi, hz0, hz1, hz2⟩ := info_parts rows_info
  have hu := hu0.mono hbi0
  have hbase : bo ≤ w.heap.size := Nat.le_trans hbo0 hb0.size
  obtain ⟨us0, hown0⟩ := hown0
  have hlt0 : ∀ k, k < rows.length → ∀ g, (us0.getD k (.slice none 0 0)).ownBlock = some g → g < w0.heap.size := fun k hk g hg => ((hown0.2.2.1 k hk).lt g hg).2
  obtain ⟨hl, hor, hr, hd⟩ : Own2U w bo bi v us0 rows := ⟨hown0.1, ownsRow_below hown0.2.1 hb0, fun k hk => (hown0.2.2.1 k hk).below hb0, hown0.2.2.2⟩
  have hor' : (w.alloc (.cells #[u] 23)).ownsRow bo 23 1 v rows.length us0 := World.ownsRow.alloc hor _
  refine wpList_append_own _ hgd s x 97 ho bo 23 i0 (.slice none 0 0) 1 24 Tryz.underlying97 hi hz0 hz1 hz2 rfl (by decide) v rows.length us0 hs hor' ⟨w.heap.size, 0, none⟩ 1 1 [u] hx rfl ?_ ?_ ?_ ?_ ?_ ?_
  · intro j y hj
    match j, hj with
    | 0, hj => simp at hj; subst hj; simp [Addr.add]
  · intro y hy
    simp at hy
    subst hy
    obtain ⟨B, d, e, _⟩ := hu.form
    rw [e]; rfl
  · unfold maxLen; omega
  · omega
  · simp; omega
  · intro v' w' h1 h2 _
    have h2' := grown_of_alloc h2
    have e1 : ∀ k, k < rows.length → (us0 ++ [u]).getD k (.slice none 0 0) = us0.getD k (.slice none 0 0) := fun k hk => by simp [List.getD_eq_getElem?_getD, List.getElem?_append_left (show k < us0.length by omega)]
    have e2 : (us0 ++ [u]).getD rows.length (.slice none 0 0) = u := by simp [List.getD_eq_getElem?_getD, ← hl]
    refine h v' w' ⟨us0 ++ [u], by simp [hl], by rw [List.length_append]; exact h1, fun k hk => ?_, fun i j hij hj => ?_⟩ h2'
    · rw [List.length_append, List.length_singleton] at hk
      by_cases hk2 : k < rows.length
      · have e3 : (rows ++ [xs]).getD k [] = rows.getD k [] := by simp [List.getD_eq_getElem?_getD, List.getElem?_append_left hk2]
        rw [e1 k hk2, e3]
        exact (hr k hk2).kept h2' (types_part (hr k hk2) hor (by decide))
      · obtain rfl : k = rows.length := by omega
        have e3 : (rows ++ [xs]).getD rows.length [] = xs := by simp [List.getD_eq_getElem?_getD]
        rw [e2, e3]
        exact hu.kept h2' (types_part hu hor (by decide))
    · rw [List.length_append, List.length_singleton] at hj
      rw [e1 i (by omega)]
      by_cases hj2 : j < rows.length
      · rw [e1 j hj2]; exact hd i j hij hj2
      · obtain rfl : j = rows.length := by omega
        rw [e2]
        rcases q : (us0.getD i (.slice none 0 0)).ownBlock with _ | g
        · exact .inl rfl
        · right
          intro e
          have := hlt0 i hij g q
          have := (hu0.lt g e.symm).1
          omega
end Go.Proofs.YtbkiedhaacapbaaGreat

namespace Go.Proofs.YtbkiedhaacapbaaGreat
open Go.RowKit

def maxTo (xs : List Int) : Nat → Int
  | 0 => xs[0]?.getD 0
  | k + 1 => max (maxTo xs k) (xs[k + 1]?.getD 0)
/-- the greatest of the numbers -/
def maxI (xs : List Int) : Int := maxTo xs (xs.length - 1)
theorem maxTo_bd {xs : List Int} {lo hi : Int} (h : ∀ k : Nat, lo ≤ xs[k]?.getD 0 ∧ xs[k]?.getD 0 ≤ hi) (k : Nat) : lo ≤ maxTo xs k ∧ maxTo xs k ≤ hi := by
  induction k with
  | zero => exact h 0
  | succ k ih => have := h (k + 1); unfold maxTo; omega
theorem maxTo_ge (xs : List Int) (k : Nat) : ∀ j, j ≤ k → xs[j]?.getD 0 ≤ maxTo xs k := by
  induction k with
  | zero => intro j hj; obtain rfl : j = 0 := by omega
            exact Int.le_refl _
  | succ k ih =>
    intro j hj
    unfold maxTo
    by_cases h : j = k + 1
    · subst h; omega
    · have := ih j (by omega); omega
theorem maxTo_mem (xs : List Int) (k : Nat) : ∃ j, j ≤ k ∧ maxTo xs k = xs[j]?.getD 0 := by
  induction k with
  | zero => exact ⟨0, Nat.le_refl _, rfl⟩
  | succ k ih =>
    obtain ⟨j, hj, e⟩ := ih
    unfold maxTo
    by_cases h : maxTo xs k ≤ xs[k + 1]?.getD 0
    · exact ⟨k + 1, Nat.le_refl _, by omega⟩
    · exact ⟨j, by omega, by omega⟩
theorem maxI_pos {xs : List Int} (h0 : ∀ x ∈ xs, 0 ≤ x) (hne : 0 < xs.length) : 0 < maxI xs ↔ ∃ x ∈ xs, x ≠ 0 := by
  constructor
  · intro h
    obtain ⟨j, hj, e⟩ := maxTo_mem xs (xs.length - 1)
    have hjl : j < xs.length := by omega
    refine ⟨xs[j], List.getElem_mem hjl, ?_⟩
    unfold maxI at h
    rw [e, List.getElem?_eq_getElem hjl] at h
    simp at h
    omega
  · rintro ⟨x, hx, hx0⟩
    obtain ⟨j, hj, rfl⟩ := List.mem_iff_getElem.1 hx
    have h1 := maxTo_ge xs (xs.length - 1) j (by omega)
    rw [List.getElem?_eq_getElem hj] at h1
    have h2 := h0 _ (List.getElem_mem hj)
    simp at h1
    unfold maxI
    omega

set_option maxHeartbeats 400000 in
theorem max_any (v : Value) (xs : List Int) (w : World) (h : Rd w v xs) (hne : 0 < xs.length) :
    Calls Tryz.prog 96 #[v] w fun e w' => e = .returned (.int .i64 (maxI xs)) ∧ w = w' := by
  obtain ⟨A, c, rfl, hl1, hm1, hc1⟩ := h
  unfold maxLen at hm1
  obtain ⟨b, off, rfl, hb, hx⟩ := hc1 hne
  generalize hn : xs.length = n at *
  have H1 := Lib.hid hn
  have h0 := hx 0 (by omega)
  simp only [Nat.add_zero] at h0
  have HX := Lib.hid hx
  have hlt1 : ¬ ((n : Int) < 1) := by omega
  clear hn hc1 hx
  go_enter Tryz.func96, Tryz.ntmps96
  go_wp2
  go_loop [3, 4] (fun s i => ∃ k : Nat, k + 1 ≤ n ∧ i = .int .i64 ((k + 1 : Nat) : Int) ∧ s = .int .i64 (maxTo xs k)) (fun _ i => n - (intOf i).toNat)
  case atStart => exact ⟨0, by omega, rfl, by simp [maxTo]⟩
  case round =>
    obtain ⟨k, hk, rfl, rfl⟩ := hrel
    by_cases hlt : k + 1 < n
    · have hxk := HX.out (k + 1) hlt
      have hms : maxTo xs (k + 1) = max (maxTo xs k) (xs[k + 1]?.getD 0) := rfl
      have HM := Lib.hid hms
      clear hms
      generalize maxTo xs k = m at *
      go_wp2
      go_round
      case rel => exact ⟨k + 1, by omega, by go_num, by first | (rw [HM.out]; done) | (rw [HM.out]; congr 1; done) | (rw [HM.out]; congr 1; split <;> omega)⟩
      case measure => simp [intOf]; omega
    · have hge : ¬ (((k + 1 : Nat) : Int) < (n : Int)) := by omega
      go_wp2
      go_ret
      refine ⟨ret_int ?_, rfl⟩
      have := H1.out
      unfold maxI
      rw [this, show n - 1 = k from by omega]
end Go.Proofs.YtbkiedhaacapbaaGreat

namespace Go.Proofs.YtbkiedhaacapbaaGreat
open Go.RowKit Go.Sort

noncomputable def stratB (s : Int) (xs ws : List Int) : Bool := tourB s xs && (((ws.length : Int) == s) && (allB ws 0 100000 && decide (0 < ws.sum)))
theorem allB_of {xs : List Int} {lo hi : Int} (h : allB xs lo hi = true) : ∀ x ∈ xs, lo ≤ x ∧ x ≤ hi := by
  unfold allB at h; rw [List.all_eq_true] at h; exact fun x hx => inB_true.1 (h x hx)
theorem allB_true {xs : List Int} {lo hi : Int} (h : ∀ x ∈ xs, lo ≤ x ∧ x ≤ hi) : allB xs lo hi = true := by
  unfold allB; rw [List.all_eq_true]; exact fun x hx => inB_true.2 (h x hx)
theorem stratB_true {s : Int} {xs ws : List Int} : stratB s xs ws = true ↔ tourP s xs ∧ (ws.length : Int) = s ∧ (∀ x ∈ ws, 0 ≤ x ∧ x ≤ 100000) ∧ 0 < ws.sum := by
  simp only [stratB, Bool.and_eq_true, tourB_true, beq_iff_eq, decide_eq_true_eq]
  exact ⟨fun h => ⟨h.1, h.2.1, allB_of h.2.2.1, h.2.2.2⟩, fun h => ⟨h.1, h.2.1, allB_true h.2.2.1, h.2.2.2⟩⟩
theorem sum_pos {xs : List Int} (h0 : ∀ x ∈ xs, 0 ≤ x) : 0 ≤ xs.sum ∧ (0 < xs.sum ↔ ∃ x ∈ xs, x ≠ 0) := by
  induction xs with
  | nil => simp
  | cons a xs ih =>
    have ih := ih fun x hx => h0 x (by simp [hx])
    have ha := h0 a (by simp)
    rw [List.sum_cons]
    refine ⟨by omega, ?_⟩
    constructor
    · intro h
      by_cases hz : a = 0
      · obtain ⟨x, hx, hne⟩ := ih.2.1 (by omega)
        exact ⟨x, by simp [hx], hne⟩
      · exact ⟨a, by simp, hz⟩
    · rintro ⟨x, hx, hne⟩
      rw [List.mem_cons] at hx
      rcases hx with rfl | hx
      · omega
      · have := ih.2.2 ⟨x, hx, hne⟩; omega
theorem max_sum {xs : List Int} (h0 : ∀ x ∈ xs, 0 ≤ x) (hne : 0 < xs.length) : decide (0 < maxI xs) = decide (0 < xs.sum) := by
  have h1 := maxI_pos h0 hne
  have h2 := (sum_pos h0).2
  rw [decide_eq_decide, h1, h2]
theorem take_snocI {xs : List Int} {k : Nat} (hk : k < xs.length) : xs.take (k + 1) = xs.take k ++ [xs[k]?.getD 0] := by
  rw [List.take_succ_eq_append_getElem hk]
  simp [hk]
theorem sum_take_bd {xs : List Int} (B : Nat) (h : ∀ x ∈ xs, 0 ≤ x ∧ x ≤ B) (k : Nat) (hk : k ≤ xs.length) : 0 ≤ (xs.take k).sum ∧ (xs.take k).sum ≤ B * k := by
  induction k with
  | zero => simp
  | succ k ih =>
    have ih := ih (by omega)
    rw [take_snocI (by omega), List.sum_append, List.sum_singleton]
    have hx := h (xs[k]?.getD 0) (by rw [List.getElem?_eq_getElem (by omega)]; exact List.getElem_mem _)
    have : (B : Int) * ((k + 1 : Nat) : Int) = B * k + B := by rw [Int.natCast_add, Int.mul_add]; simp
    omega

set_option maxHeartbeats 1000000 in
theorem implStrat (s : Int) (sl : Value) (xs : List Int) (wv : Value) (ws : List Int) (w : World) (h : Rd w sl xs) (h2 : Rd w wv ws) :
    Calls Tryz.prog 76 #[.agg #[.int .i64 s, sl], wv] w fun e w' => e = .returned (.bool (stratB s xs ws)) ∧ Below w.heap.size w w' := by
  have HR := Lib.hid h
  have HW := Lib.hid h2
  obtain ⟨A, c, rfl, -, -, -⟩ := h
  obtain ⟨B, d, rfl, -, hm, -⟩ := h2
  unfold maxLen at hm
  rcases q0 : tourB s xs with _ | _
  case false =>
    go_enter Tryz.func76, Tryz.ntmps76
    go_wp2_with fail
    have b0 := below_alloc1 w (.cells #[.int .i64 s, .slice A xs.length c] 25)
    have x0 := TBox.new w s (.slice A xs.length c) 25
    generalize w.alloc (.cells #[.int .i64 s, .slice A xs.length c] 25) = w0 at *
    have HX0 := Lib.hid x0
    have HB0 := Lib.hid b0
    clear x0 b0
    have y0_0 := HX0.out.1
    have y1_0 := HX0.out.2
    go_wp2_with fail
    refine (implTourOk s _ xs _ (HR.out.below HB0.out)).mono ?_
    rintro e w1 ⟨rfl, hb⟩
    have HX1 := Lib.hid (HX0.out.below hb)
    have HB1 := Lib.hid (Below.then HB0.out hb)
    clear hb HX0 HB0 y0_0 y1_0
    have y0_1 := HX1.out.1
    have y1_1 := HX1.out.2
    rw [q0]
    go_wp2
    go_ret
    exact ⟨ret_bool (by simp [stratB, *]), HB1.out⟩
  have hs := (tourB_true.1 q0).1
  rcases q1 : ((ws.length : Int) == s) with _ | _
  case false =>
    go_enter Tryz.func76, Tryz.ntmps76
    go_wp2_with fail
    have b0 := below_alloc1 w (.cells #[.int .i64 s, .slice A xs.length c] 25)
    have x0 := TBox.new w s (.slice A xs.length c) 25
    generalize w.alloc (.cells #[.int .i64 s, .slice A xs.length c] 25) = w0 at *
    have HX0 := Lib.hid x0
    have HB0 := Lib.hid b0
    clear x0 b0
    have y0_0 := HX0.out.1
    have y1_0 := HX0.out.2
    go_wp2_with fail
    refine (implTourOk s _ xs _ (HR.out.below HB0.out)).mono ?_
    rintro e w1 ⟨rfl, hb⟩
    have HX1 := Lib.hid (HX0.out.below hb)
    have HB1 := Lib.hid (Below.then HB0.out hb)
    clear hb HX0 HB0 y0_0 y1_0
    have y0_1 := HX1.out.1
    have y1_1 := HX1.out.2
    rw [q0]
    go_wp2
    go_ret
    exact ⟨ret_bool (by simp [stratB, *]), HB1.out⟩
  rcases q2 : allB ws 0 100000 with _ | _
  case false =>
    go_enter Tryz.func76, Tryz.ntmps76
    go_wp2_with fail
    have b0 := below_alloc1 w (.cells #[.int .i64 s, .slice A xs.length c] 25)
    have x0 := TBox.new w s (.slice A xs.length c) 25
    generalize w.alloc (.cells #[.int .i64 s, .slice A xs.length c] 25) = w0 at *
    have HX0 := Lib.hid x0
    have HB0 := Lib.hid b0
    clear x0 b0
    have y0_0 := HX0.out.1
    have y1_0 := HX0.out.2
    go_wp2_with fail
    refine (implTourOk s _ xs _ (HR.out.below HB0.out)).mono ?_
    rintro e w1 ⟨rfl, hb⟩
    have HX1 := Lib.hid (HX0.out.below hb)
    have HB1 := Lib.hid (Below.then HB0.out hb)
    clear hb HX0 HB0 y0_0 y1_0
    have y0_1 := HX1.out.1
    have y1_1 := HX1.out.2
    rw [q0]
    go_wp2_with fail
    refine (allWithin_any _ ws 0 100000 _ (HW.out.below HB1.out)).mono ?_
    rintro e w2 ⟨rfl, hb⟩
    have HX2 := Lib.hid (HX1.out.below hb)
    have HB2 := Lib.hid (Below.then HB1.out hb)
    clear hb HX1 HB1 y0_1 y1_1
    have y0_2 := HX2.out.1
    have y1_2 := HX2.out.2
    rw [q2]
    go_wp2
    go_ret
    exact ⟨ret_bool (by simp [stratB, *]), HB2.out⟩
  have hA := Lib.hid (allB_of q2)
  have hL : Hid (0 < ws.length) := (by have := beq_iff_eq.1 q1; show 0 < ws.length; omega)
  go_enter Tryz.func76, Tryz.ntmps76
  go_wp2_with fail
  have b0 := below_alloc1 w (.cells #[.int .i64 s, .slice A xs.length c] 25)
  have x0 := TBox.new w s (.slice A xs.length c) 25
  generalize w.alloc (.cells #[.int .i64 s, .slice A xs.length c] 25) = w0 at *
  have HX0 := Lib.hid x0
  have HB0 := Lib.hid b0
  clear x0 b0
  have y0_0 := HX0.out.1
  have y1_0 := HX0.out.2
  go_wp2_with fail
  refine (implTourOk s _ xs _ (HR.out.below HB0.out)).mono ?_
  rintro e w1 ⟨rfl, hb⟩
  have HX1 := Lib.hid (HX0.out.below hb)
  have HB1 := Lib.hid (Below.then HB0.out hb)
  clear hb HX0 HB0 y0_0 y1_0
  have y0_1 := HX1.out.1
  have y1_1 := HX1.out.2
  rw [q0]
  go_wp2_with fail
  refine (allWithin_any _ ws 0 100000 _ (HW.out.below HB1.out)).mono ?_
  rintro e w2 ⟨rfl, hb⟩
  have HX2 := Lib.hid (HX1.out.below hb)
  have HB2 := Lib.hid (Below.then HB1.out hb)
  clear hb HX1 HB1 y0_1 y1_1
  have y0_2 := HX2.out.1
  have y1_2 := HX2.out.2
  rw [q2]
  go_wp2_with fail
  refine (max_any _ ws _ (HW.out.below HB2.out) hL.out).mono ?_
  rintro e wz ⟨rfl, rfl⟩
  have hF : Hid (decide (0 < maxI ws) = stratB s xs ws) := by
    unfold Hid
    rw [max_sum (fun x hx => (hA.out x hx).1) hL.out, stratB, q0, q1, q2]
    rfl
  go_wp2
  go_ret
  exact ⟨ret_bool hF.out, HB2.out⟩
end Go.Proofs.YtbkiedhaacapbaaGreat

