/- Texts put together: Cls. -/
import Derived.Test.YthoodjjjklbggaaGreatDoorMTriangles03
import Derived.Test.YthoodjjjklbggaaGreatDoorMTriangles04
import Derived.Test.YthoodjjjklbggaaGreatDoorMTriangles07
namespace Go.Proofs.YthoodjjjklbggaaGreatDoor
open Go.RowKit Go.Sort
set_option maxRecDepth 100000

/-- the orders that begin with pre, by depth -/
def ordFrom (n : Nat) : Nat → List Nat → List (List Nat)
  | 0, pre => [pre]
  | m + 1, pre => ((List.range n).filter fun b => !pre.contains b).flatMap fun b => ordFrom n m (pre ++ [b])
def ordL (n : Nat) : List (List Nat) := ordFrom n n []
theorem mem_ordFrom {n : Nat} : ∀ {m : Nat} {pre ns : List Nat}, pre.Nodup → (ns ∈ ordFrom n m pre ↔ ∃ suf, ns = pre ++ suf ∧ suf.length = m ∧ (∀ x ∈ suf, x < n) ∧ (pre ++ suf).Nodup) := by
  intro m
  induction m with
  | zero =>
    intro pre ns hp
    rw [ordFrom, List.mem_singleton]
    constructor
    · rintro rfl; exact ⟨[], by simp, rfl, by simp, by simpa using hp⟩
    · rintro ⟨suf, rfl, hl, -, -⟩
      rw [List.length_eq_zero_iff] at hl; subst hl; simp
  | succ m ih =>
    intro pre ns hp
    rw [ordFrom, List.mem_flatMap]
    constructor
    · rintro ⟨b, hb, h⟩
      rw [List.mem_filter, List.mem_range] at hb
      have hb2 : b ∉ pre := by simpa using hb.2
      have hn : (pre ++ [b]).Nodup := by
        rw [List.nodup_append]
        exact ⟨hp, by simp, fun x hx y hy => by rw [List.mem_singleton] at hy; subst hy; intro e; subst e; exact hb2 hx⟩
      obtain ⟨suf, rfl, hl, hs, hd⟩ := (ih hn).1 h
      refine ⟨b :: suf, by simp, by simp [hl], fun x hx => ?_, by simpa using hd⟩
      rw [List.mem_cons] at hx
      rcases hx with rfl | hx
      · exact hb.1
      · exact hs x hx
    · rintro ⟨suf, rfl, hl, hs, hd⟩
      cases suf with
      | nil => simp at hl
      | cons b suf =>
        have hd2 : (pre ++ [b] ++ suf).Nodup := by simpa using hd
        have hn : (pre ++ [b]).Nodup := (List.nodup_append.1 hd2).1
        refine ⟨b, ?_, (ih hn).2 ⟨suf, by simp, by simpa using hl, fun x hx => hs x (List.mem_cons_of_mem _ hx), hd2⟩⟩
        rw [List.mem_filter, List.mem_range]
        refine ⟨hs b (by simp), ?_⟩
        have : b ∉ pre := fun h => (List.nodup_append.1 hn).2.2 b h b (by simp) rfl
        simpa using this
theorem mem_ordL {n : Nat} {ns : List Nat} : ns ∈ ordL n ↔ ns.length = n ∧ (∀ x ∈ ns, x < n) ∧ ns.Nodup := by
  unfold ordL
  rw [mem_ordFrom (by simp)]
  constructor
  · rintro ⟨suf, rfl, hl, hs, hd⟩; simpa using ⟨hl, hs, hd⟩
  · rintro ⟨hl, hs, hd⟩; exact ⟨ns, by simp, hl, hs, by simpa using hd⟩
theorem nI_nodup {l : List Nat} : (nI l).Nodup ↔ l.Nodup := by
  unfold nI List.Nodup
  rw [List.pairwise_map]
  exact ⟨fun h => h.imp fun h e => h (by rw [e]), fun h => h.imp fun h e => h (by exact_mod_cast e)⟩
theorem perm_nI {n : Nat} {ns : List Nat} : PermP n (nI ns) ↔ ns ∈ ordL n := by
  rw [mem_ordL]
  unfold PermP
  rw [nI_len, nI_nodup]
  constructor
  · rintro ⟨h1, h2, h3⟩
    exact ⟨h1, fun x hx => by have := (h2 (x : Int) (List.mem_map_of_mem hx)).2; omega, h3⟩
  · rintro ⟨h1, h2, h3⟩
    refine ⟨h1, fun x hx => ?_, h3⟩
    obtain ⟨y, hy, rfl⟩ := List.mem_map.1 hx
    have := h2 y hy
    omega
theorem perm_of {n : Nat} {ms : List Int} (h : PermP n ms) : ∃ ns ∈ ordL n, ms = nI ns := by
  have e : ms = nI (ms.map Int.toNat) := by
    unfold nI
    rw [List.map_map]
    conv => lhs; rw [← List.map_id ms]
    refine List.map_congr_left fun x hx => ?_
    have := h.2.1 x hx
    show x = ((x.toNat : Nat) : Int)
    omega
  refine ⟨ms.map Int.toNat, perm_nI.1 (by rw [← e]; exact h), e⟩

/-- the reference's list of names, by number -/
def nameAt : Nat → Nat → List Nat → List Nat
  | 0, _, _ => []
  | k + 1, ix, left => left.getD (ix % (k + 1)) 0 :: nameAt k (ix / (k + 1)) (left.take (ix % (k + 1)) ++ left.drop (ix % (k + 1) + 1))
def turnN (n : Nat) : List Nat := (List.range n).map fun a => (a + 1) % n
def factN : Nat → Nat
  | 0 => 1
  | n + 1 => factN n * (n + 1)
def namesL (n : Nat) : List (List Nat) := (List.range (factN n)).map fun i => nameAt n i (turnN n)
def cdl (l : List Nat) : Nat := l.foldl (fun c x => 8 * c + x) 1
theorem isPerm6 : ∀ n, n < 7 → ((namesL n).isPerm (ordL n)) = true := by decide +kernel
theorem names_perm {n : Nat} (h : n ≤ 6) : (namesL n).Perm (ordL n) := List.isPerm_iff.1 (isPerm6 n (by omega))

/-! the code -/
def cdRow (xs : List Int) (a : Nat) : Nat → Nat → Nat → Nat
  | 0, _, c => c
  | k + 1, b, c => cdRow xs a k (b + 1) (2 * c + (bt xs a b).toNat)
def cdAll (xs : List Int) (n : Nat) : Nat → Nat → Nat → Nat
  | 0, _, c => c
  | k + 1, a, c => cdAll xs n k (a + 1) (cdRow xs a (n - (a + 1)) (a + 1) c)
def codeN (xs : List Int) : Nat := cdAll xs xs.length xs.length 0 0
theorem toNat_le1 (b : Bool) : b.toNat ≤ 1 := by cases b <;> decide
theorem cdRow_lt (xs ys : List Int) (a : Nat) : ∀ {k b c c' : Nat}, c < c' → cdRow xs a k b c < cdRow ys a k b c' := by
  intro k
  induction k with
  | zero => intro b c c' h; exact h
  | succ k ih =>
    intro b c c' h
    have h1 := toNat_le1 (bt xs a b)
    exact ih (by omega)
theorem cdAll_lt (xs ys : List Int) (n : Nat) : ∀ {k a c c' : Nat}, c < c' → cdAll xs n k a c < cdAll ys n k a c' := by
  intro k
  induction k with
  | zero => intro a c c' h; exact h
  | succ k ih => intro a c c' h; exact ih (cdRow_lt xs ys a h)
theorem cdRow_inj {xs ys : List Int} {a : Nat} : ∀ {k b c c' : Nat}, cdRow xs a k b c = cdRow ys a k b c' → c = c' ∧ ∀ j, j < k → bt xs a (b + j) = bt ys a (b + j) := by
  intro k
  induction k with
  | zero => intro b c c' h; exact ⟨h, fun j hj => absurd hj (by omega)⟩
  | succ k ih =>
    intro b c c' h
    obtain ⟨h1, h2⟩ := ih h
    have e1 := toNat_le1 (bt xs a b)
    have e2 := toNat_le1 (bt ys a b)
    refine ⟨by omega, fun j hj => ?_⟩
    cases j with
    | zero =>
      have : (bt xs a b).toNat = (bt ys a b).toNat := by omega
      revert this
      show _ → bt xs a b = bt ys a b
      cases bt xs a b <;> cases bt ys a b <;> simp
    | succ j =>
      have := h2 j (by omega)
      rw [show b + 1 + j = b + (j + 1) by omega] at this
      exact this
theorem cdAll_inj {xs ys : List Int} {n : Nat} : ∀ {k a c c' : Nat}, cdAll xs n k a c = cdAll ys n k a c' → c = c' ∧ ∀ i, i < k → ∀ b, a + i < b → b < n → bt xs (a + i) b = bt ys (a + i) b := by
  intro k
  induction k with
  | zero => intro a c c' h; exact ⟨h, fun j hj => absurd hj (by omega)⟩
  | succ k ih =>
    intro a c c' h
    obtain ⟨h1, h2⟩ := ih h
    obtain ⟨h3, h4⟩ := cdRow_inj h1
    refine ⟨h3, fun i hi b hb hbn => ?_⟩
    cases i with
    | zero =>
      have := h4 (b - (a + 1)) (by omega)
      rw [show a + 1 + (b - (a + 1)) = b by omega] at this
      exact this
    | succ i =>
      have := h2 i (by omega) b (by omega) hbn
      rw [show a + 1 + i = a + (i + 1) by omega] at this
      exact this
theorem code_inj {s : Int} {xs ys : List Int} (hp : tourP s xs) (hq : tourP s ys) (h : codeN xs = codeN ys) : xs = ys := by
  have hn : xs.length = ys.length := by have := hp.2.1; have := hq.2.1; omega
  unfold codeN at h
  rw [← hn] at h
  have h2 := (cdAll_inj h).2
  have hx := tour_bits hp
  have hy := tour_bits hq
  rw [← hn] at hy
  refine list_ext0 (n := xs.length) rfl hn.symm fun i hi => ?_
  obtain ⟨S, e1, l1⟩ := hx.1 i hi
  obtain ⟨T, e2, l2⟩ := hy.1 i hi
  have bs : ∀ j, bt xs i j = S.testBit j := fun j => by unfold bt winsN; rw [e1]; rfl
  have bT : ∀ j, bt ys i j = T.testBit j := fun j => by unfold bt winsN; rw [e2]; rfl
  have up : ∀ a b, a < b → b < xs.length → bt xs a b = bt ys a b := fun a b hab hb => by
    have := h2 a (by omega) b (by omega) hb
    rwa [Nat.zero_add] at this
  rw [e1, e2]
  congr 1
  refine Nat.eq_of_testBit_eq fun j => ?_
  rw [← bs, ← bT]
  by_cases hj : j < xs.length
  · rcases Nat.lt_trichotomy i j with h | h | h
    · exact up i j h hj
    · subst h; rw [hx.2.1 i hi, hy.2.1 i hi]
    · rw [hx.2.2 i j hi hj (by omega), hy.2.2 i j hi hj (by omega), up j i h hi]
  · have hle : 2 ^ xs.length ≤ 2 ^ j := Nat.pow_le_pow_right (by decide) (by omega)
    rw [bs, bT, Nat.testBit_lt_two_pow (Nat.lt_of_lt_of_le l1 hle), Nat.testBit_lt_two_pow (Nat.lt_of_lt_of_le l2 hle)]

/-! the least name -/
def isLeast (xs L : List Int) : Prop := (∃ ns, PermP xs.length ns ∧ L = rnL xs ns) ∧ ∀ ns, PermP xs.length ns → codeN L ≤ codeN (rnL xs ns)
theorem least_unique {s : Int} {xs L M : List Int} (hp : tourP s xs) (h1 : isLeast xs L) (h2 : isLeast xs M) : L = M := by
  obtain ⟨⟨p, hP, rfl⟩, h1⟩ := h1
  obtain ⟨⟨q, hQ, rfl⟩, h2⟩ := h2
  exact code_inj (rn_tour hp hP) (rn_tour hp hQ) (Nat.le_antisymm (h1 q hQ) (h2 p hP))
theorem least_like {s : Int} {xs ys L M : List Int} (hp : tourP s xs) (hq : tourP s ys) (h1 : isLeast xs L) (h2 : isLeast ys M) : L = M ↔ ∃ ns, PermP xs.length ns ∧ rnL xs ns = ys := by
  have hn : ys.length = xs.length := by have := hp.2.1; have := hq.2.1; omega
  constructor
  · rintro rfl
    obtain ⟨⟨p, hP, e⟩, -⟩ := h1
    obtain ⟨⟨q, hQ, e'⟩, -⟩ := h2
    obtain ⟨r, hR, hr⟩ := rn_back hq hQ
    rw [← e', e] at hr
    rw [hn] at hR
    obtain ⟨t, hT, ht⟩ := rn_comp rfl hP hR
    exact ⟨t, hT, by rw [← ht]; exact hr⟩
  · rintro ⟨p, hP, rfl⟩
    have hl := rn_len rfl hP
    refine least_unique hp h1 ?_
    obtain ⟨⟨q, hQ, rfl⟩, h2⟩ := h2
    rw [hl] at hQ h2
    obtain ⟨t, hT, ht⟩ := rn_comp rfl hP hQ
    refine ⟨⟨t, hT, ht⟩, fun r hR => ?_⟩
    obtain ⟨b, hB, hb⟩ := rn_back hp hP
    obtain ⟨u, hU, hu⟩ := rn_comp hl hB hR
    rw [hb] at hu
    rw [hu]
    exact h2 u hU
/-- the fold that keeps the least -/
noncomputable def pickL (xs : List Int) (l : List (List Nat)) (L : List Int) : List Int := l.foldl (fun best ns => if codeN (rnL xs (nI ns)) < codeN best then rnL xs (nI ns) else best) L
theorem pick_least (xs : List Int) : ∀ (l : List (List Nat)) (L : List Int), (pickL xs l L = L ∨ ∃ ns ∈ l, pickL xs l L = rnL xs (nI ns)) ∧ codeN (pickL xs l L) ≤ codeN L ∧ ∀ ns ∈ l, codeN (pickL xs l L) ≤ codeN (rnL xs (nI ns)) := by
  intro l
  induction l with
  | nil => intro L; exact ⟨.inl rfl, Nat.le_refl _, fun _ h => by cases h⟩
  | cons a l ih =>
    intro L
    have e : pickL xs (a :: l) L = pickL xs l (if codeN (rnL xs (nI a)) < codeN L then rnL xs (nI a) else L) := rfl
    rw [e]
    obtain ⟨h1, h2, h3⟩ := ih (if codeN (rnL xs (nI a)) < codeN L then rnL xs (nI a) else L)
    split at h1
    · rename_i hc
      rw [if_pos hc] at h2 h3 ⊢
      refine ⟨?_, by omega, fun ns hns => ?_⟩
      · rcases h1 with h | ⟨ns, hns, h⟩
        · exact .inr ⟨a, by simp, h⟩
        · exact .inr ⟨ns, List.mem_cons_of_mem _ hns, h⟩
      · rw [List.mem_cons] at hns
        rcases hns with rfl | hns
        · exact h2
        · exact h3 ns hns
    · rename_i hc
      rw [if_neg hc] at h2 h3 ⊢
      refine ⟨?_, h2, fun ns hns => ?_⟩
      · rcases h1 with h | ⟨ns, hns, h⟩
        · exact .inl h
        · exact .inr ⟨ns, List.mem_cons_of_mem _ hns, h⟩
      · rw [List.mem_cons] at hns
        rcases hns with rfl | hns
        · omega
        · exact h3 ns hns
theorem pick_is {s : Int} {xs : List Int} (hp : tourP s xs) {l : List (List Nat)} (hl : ∀ ns, ns ∈ l ↔ ns ∈ ordL xs.length) : isLeast xs (pickL xs l xs) := by
  obtain ⟨h1, h2, h3⟩ := pick_least xs l xs
  refine ⟨?_, fun ns hP => ?_⟩
  · rcases h1 with h | ⟨ns, hns, h⟩
    · exact ⟨idL xs.length, id_perm _, by rw [rn_id hp]; exact h⟩
    · exact ⟨nI ns, perm_nI.2 ((hl ns).1 hns), h⟩
  · obtain ⟨ms, hms, rfl⟩ := perm_of hP
    exact h3 ms ((hl ms).2 hms)
end Go.Proofs.YthoodjjjklbggaaGreatDoor

