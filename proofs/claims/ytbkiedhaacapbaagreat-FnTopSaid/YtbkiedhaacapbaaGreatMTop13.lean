/- Texts put together: Cyc, StP, LwS, RowsL, TrC0, ThrS, WBi. -/
import Derived.Test.YtbkiedhaacapbaaGreatMTop12
import Derived.Test.YtbkiedhaacapbaaGreatMTop09
import Derived.Test.YtbkiedhaacapbaaGreatMTop11
import Derived.Test.YtbkiedhaacapbaaGreatMTop01
import Derived.Test.YtbkiedhaacapbaaGreatMTop02
import Derived.Test.YtbkiedhaacapbaaGreatMTop07
namespace Go.Proofs.YtbkiedhaacapbaaGreat
open Go.RowKit Go.Sort

noncomputable def cycB (s : Int) (xs ys : List Int) : Bool := decide (3 ≤ (ys.length : Int)) && (wayB s xs ys && bitI (xs.getD (ys.getD (ys.length - 1) 0).toNat 0) (ys.getD 0 0).toNat)
end Go.Proofs.YtbkiedhaacapbaaGreat

namespace Go.Proofs.YtbkiedhaacapbaaGreat
open Go.RowKit Go.Sort
set_option maxRecDepth 100000
/-- a list of players each of whom beats the next one -/
def okW (xs : List Int) (n : Nat) (l : List Nat) : Prop := l.Nodup ∧ (∀ x ∈ l, x < n) ∧ ∀ i, i + 1 < l.length → bt xs (l.getD i 0) (l.getD (i + 1) 0) = true
theorem getD_app_lt {l m : List Nat} {i : Nat} (h : i < l.length) : (l ++ m).getD i 0 = l.getD i 0 := by
  simp [List.getD_eq_getElem?_getD, List.getElem?_append_left h]
theorem getD_app_ge {l m : List Nat} {i : Nat} (h : l.length ≤ i) : (l ++ m).getD i 0 = m.getD (i - l.length) 0 := by
  simp [List.getD_eq_getElem?_getD, List.getElem?_append_right h]
theorem okW_snoc {xs : List Int} {n : Nat} {l : List Nat} {b : Nat} (h : okW xs n l) (hne : l ≠ []) (hb : b < n) (hn : b ∉ l) (hw : bt xs (lastN l) b = true) : okW xs n (l ++ [b]) := by
  obtain ⟨h1, h2, h3⟩ := h
  have h0 : 0 < l.length := List.length_pos_iff.2 hne
  refine ⟨List.nodup_append.2 ⟨h1, by simp, fun x hx y hy => ?_⟩, fun x hx => ?_, fun i hi => ?_⟩
  · simp at hy; subst hy; exact fun e => hn (e ▸ hx)
  · rcases List.mem_append.1 hx with h | h
    · exact h2 x h
    · simp at h; subst h; exact hb
  · rw [List.length_append, List.length_singleton] at hi
    by_cases e : i + 1 = l.length
    · rw [getD_app_lt (by omega), getD_app_ge (by omega), e, Nat.sub_self]
      have : lastN l = l.getD i 0 := by unfold lastN; rw [← e]; rfl
      rw [← this]; exact hw
    · rw [getD_app_lt (by omega), getD_app_lt (by omega)]
      exact h3 i (by omega)
theorem okW_take {xs : List Int} {n : Nat} {l m : List Nat} (h : okW xs n (l ++ m)) : okW xs n l := by
  obtain ⟨h1, h2, h3⟩ := h
  refine ⟨(List.nodup_append.1 h1).1, fun x hx => h2 x (List.mem_append.2 (.inl hx)), fun i hi => ?_⟩
  have := h3 i (by rw [List.length_append]; omega)
  rwa [getD_app_lt (by omega), getD_app_lt (by omega)] at this
theorem cand_mem {xs : List Int} {n : Nat} {way : List Nat} {b : Nat} : b ∈ cand xs n way ↔ b < n ∧ bt xs (lastN way) b = true ∧ b ∉ way := by
  unfold cand
  rw [List.mem_filter, mem_memN]
  simp
  constructor
  · rintro ⟨⟨h1, h2⟩, h3⟩; exact ⟨h1, h2, h3⟩
  · rintro ⟨h1, h2, h3⟩; exact ⟨⟨h1, h2⟩, h3⟩
theorem lastN_app {l : List Nat} {b : Nat} : lastN (l ++ [b]) = b := by simp [lastN]
/-- what the search finds is a way that begins so and is wanted -/
theorem dfs_sound {xs : List Int} {n : Nat} {want : List Nat → Bool} : ∀ {m : Nat} {way L : List Nat}, dfs xs n want m way = some L → okW xs n way → way ≠ [] → okW xs n L ∧ want L = true ∧ L.length = way.length + m ∧ ∃ suf, L = way ++ suf := by
  intro m
  induction m with
  | zero =>
    intro way L h hw hne
    rw [dfs] at h
    split at h
    · rename_i hwant
      injection h with h
      subst h
      exact ⟨hw, hwant, by omega, [], by simp⟩
    · cases h
  | succ m ih =>
    intro way L h hw hne
    rw [dfs] at h
    obtain ⟨b, hb, hb2⟩ := List.exists_of_findSome?_eq_some h
    obtain ⟨b1, b2, b3⟩ := cand_mem.1 hb
    obtain ⟨h1, h2, h3, suf, h4⟩ := ih hb2 (okW_snoc hw hne b1 b3 b2) (by simp)
    refine ⟨h1, h2, ?_, b :: suf, by rw [h4]; simp⟩
    rw [List.length_append, List.length_singleton] at h3
    omega
/-- if there is a way that begins so and is wanted, the search finds one -/
theorem dfs_complete {xs : List Int} {n : Nat} {want : List Nat → Bool} : ∀ {m : Nat} {way suf : List Nat}, okW xs n (way ++ suf) → way ≠ [] → want (way ++ suf) = true → suf.length = m → ∃ L, dfs xs n want m way = some L := by
  intro m
  induction m with
  | zero =>
    intro way suf _ _ hwant hl
    have : suf = [] := List.eq_nil_of_length_eq_zero hl
    subst this
    rw [List.append_nil] at hwant
    exact ⟨way, by rw [dfs, if_pos hwant]⟩
  | succ m ih =>
    intro way suf hw hne hwant hl
    obtain ⟨b, suf, rfl⟩ : ∃ b t, suf = b :: t := by
      cases suf with
      | nil => cases hl
      | cons b t => exact ⟨b, t, rfl⟩
    have e : way ++ b :: suf = (way ++ [b]) ++ suf := by simp
    rw [e] at hw hwant
    obtain ⟨L, hL⟩ := ih hw (by simp) hwant (by simpa using hl)
    have h0 : 0 < way.length := List.length_pos_iff.2 hne
    have hw2 := okW_take hw
    have hb : b ∈ cand xs n way := by
      refine cand_mem.2 ⟨hw2.2.1 b (by simp), ?_, fun h => ?_⟩
      · have := hw2.2.2 (way.length - 1) (by rw [List.length_append, List.length_singleton]; omega)
        rw [getD_app_lt (by omega), show way.length - 1 + 1 = way.length by omega, getD_app_ge (Nat.le_refl _), Nat.sub_self] at this
        exact this
      · exact (List.nodup_append.1 hw2.1).2.2 b h b (by simp) rfl
    rw [dfs]
    rcases q : (cand xs n way).findSome? fun b => dfs xs n want m (way ++ [b]) with _ | L'
    · rw [List.findSome?_eq_none_iff] at q
      rw [q b hb] at hL; cases hL
    · exact ⟨L', rfl⟩
section
variable {n : Nat} {xs : List Int}
theorem okW_one {a : Nat} (ha : a < n) : okW xs n [a] := ⟨by simp, fun x hx => by simp at hx; subst hx; exact ha, fun i hi => by simp at hi⟩
/-- such a list is a way for the program -/
theorem okW_way (hp : tourP n xs) {l : List Nat} (h : okW xs n l) : wayB n xs (nI l) = true := by
  obtain ⟨h1, h2, h3⟩ := h
  unfold wayB
  rw [tourB_true.2 hp, Bool.true_and, nI_len, wayK_true]
  intro i hi
  have hm : ∀ k, k < l.length → l.getD k 0 < n := fun k hk => h2 _ (by rw [getD_nat hk]; exact List.getElem_mem hk)
  unfold wayAt
  rw [nI_getD hi, show inB ((l.getD i 0 : Nat) : Int) 0 ((n : Int) - 1) = true from inB_true.2 ⟨by omega, by have := hm i hi; omega⟩, Bool.true_and, Bool.and_eq_true]
  constructor
  · rw [Bool.not_eq_true']
    unfold containsI
    rw [decide_eq_false_iff_not]
    intro hc
    obtain ⟨k, hk, e⟩ := List.getElem_of_mem hc
    rw [List.length_take, nI_len] at hk
    rw [List.getElem_take] at e
    have e2 : (l[k]'(by omega) : Nat) = l[i] := by
      rw [getD_nat hi] at e
      unfold nI at e
      rw [List.getElem_map] at e
      omega
    have := (List.getElem_inj h1).1 e2
    omega
  · rw [Bool.or_eq_true]
    rcases Nat.eq_zero_or_pos i with h0 | h0
    · exact .inl (by subst h0; rfl)
    · right
      have hk : i - 1 < l.length := by omega
      have := h3 (i - 1) (by omega)
      rw [show i - 1 + 1 = i by omega] at this
      rw [nI_getD hk, Int.toNat_natCast, Int.toNat_natCast]
      obtain ⟨S, e, -⟩ := (tour_bits hp).1 (l.getD (i - 1) 0) (by rw [tour_len hp]; exact hm _ hk)
      rw [bitI_bt e]
      exact this
/-- the strong tours: everybody reaches all -/
def strP (xs : List Int) (n : Nat) : Prop := ∀ a, a < n → reachN xs a = 2 ^ n - 1
theorem strong_parts (hp : tourP n xs) : (partsN xs (2 ^ n - 1)).length = 1 ↔ strP xs n := by
  have hln := tour_len hp
  have h1 : 1 ≤ n := by have := hp.1; omega
  have hfull : 2 ^ n - 1 < 2 ^ xs.length := by rw [hln]; have := Nat.one_le_two_pow (n := n); omega
  have hclo : clo xs (2 ^ n - 1) := by have := clo_full hp; rwa [hln] at this
  have h0 : 2 ^ n - 1 ≠ 0 := by have := Nat.pow_le_pow_right (n := 2) (by decide) h1; omega
  have hst := partsN_step hp hfull hclo h0
  rw [hln] at hst
  constructor
  · intro h
    rw [hst, List.length_cons] at h
    have h2 : partsN xs (less (2 ^ n - 1) (topF xs n (2 ^ n - 1))) = [] := List.eq_nil_of_length_eq_zero (by omega)
    have hlt : less (2 ^ n - 1) (topF xs n (2 ^ n - 1)) < 2 ^ xs.length := less_lt hfull
    have hz : less (2 ^ n - 1) (topF xs n (2 ^ n - 1)) = 0 := by
      refine Classical.byContradiction fun hne => ?_
      have := rest_clo hp hfull hclo
      rw [hln] at this
      rw [partsN_step hp hlt this hne] at h2
      cases h2
    intro a ha
    have hb := congrArg (fun z => z.testBit a) hz
    simp only [testBit_less, Nat.zero_testBit, testBit_full, decide_eq_true ha, Bool.true_and, Bool.not_eq_eq_eq_not, Bool.not_false] at hb
    rw [testBit_topF, testBit_full, decide_eq_true ha, Bool.true_and, Bool.true_and, beq_iff_eq] at hb
    exact hb
  · intro h
    have htop : topF xs n (2 ^ n - 1) = 2 ^ n - 1 := Nat.eq_of_testBit_eq fun a => by
      rw [testBit_topF, testBit_full]
      by_cases ha : a < n
      · rw [h a ha]; simp [ha]
      · simp [ha]
    have hz : less (2 ^ n - 1) (2 ^ n - 1) = 0 := Nat.eq_of_testBit_eq fun a => by rw [testBit_less, Nat.zero_testBit]; cases (2 ^ n - 1).testBit a <;> rfl
    rw [hst, htop, hz, partsN_zero]; rfl
/-- a tour with a set that beats all others is not strong -/
theorem cut_not (hp : tourP n xs) {f : Nat → Bool} {a b : Nat} (ha : a < n) (hb : b < n) (hfa : f a = true) (hfb : f b = false) (hc : ∀ x y, x < n → y < n → f x = true → f y = false → bt xs x y = true) : ¬ strP xs n := by
  have hln := tour_len hp
  intro h
  obtain ⟨S, hS⟩ : ∃ S, S = setOf (fun x => !f x) n := ⟨_, rfl⟩
  have hSb : ∀ c, S.testBit c = true ↔ c < n ∧ f c = false := fun c => by rw [hS, testBit_setOf]; simp
  have hclo : clo xs S := fun x y hx hy => by
    obtain ⟨hx1, hx2⟩ := (hSb x).1 hx
    have hyn := bt_hi hp hx1 hy
    refine (hSb y).2 ⟨hyn, ?_⟩
    rcases q : f y with _ | _
    · rfl
    · have h1 := hc y x hyn hx1 q hx2
      have h2 := (bt_asym hp hx1 hyn hy).1
      rw [h1] at h2; cases h2
  have hr := reach_facts hp (a := b) (by rw [hln]; exact hb)
  have := hr.2.2.1 S hclo ((hSb b).2 ⟨hb, hfb⟩) a (by rw [h b hb, testBit_full]; simpa using ha)
  rw [((hSb a).1 this).2] at hfa
  cases hfa
/-- a backwards search that succeeds: a way -/
theorem cyF_way {T a : Nat} {f : Nat → Nat} (hf1 : ∀ i, i < n → f i < n) (hf2 : ∀ i k, i < n → k < n → f i = f k → i = k) (hft : ∀ i k, i < n → k < n → bt xs (f i) (f k) = bN T i k) (ha : a < n) : ∀ m (way : List Nat), cyF T n a m way = true → way ≠ [] → (∀ x ∈ way, x < n) → okW xs n (way.reverse.map f) →
    ∃ suf : List Nat, suf.length = m ∧ okW xs n ((way.reverse ++ suf).map f) ∧ bt xs (lastN ((way.reverse ++ suf).map f)) (f a) = true := by
  intro m
  induction m with
  | zero =>
    intro way h hne hx hok
    refine ⟨[], rfl, by simpa using hok, ?_⟩
    obtain ⟨x, t, rfl⟩ : ∃ x t, way = x :: t := by
      cases way with
      | nil => exact absurd rfl hne
      | cons x t => exact ⟨x, t, rfl⟩
    have e : lastN (((x :: t).reverse ++ []).map f) = f x := by
      rw [List.append_nil, List.reverse_cons, List.map_append, List.map_cons, List.map_nil, lastN_app]
    rw [e, hft x a (hx x (by simp)) ha]
    exact h
  | succ m ih =>
    intro way h hne hx hok
    obtain ⟨x, t, rfl⟩ : ∃ x t, way = x :: t := by
      cases way with
      | nil => exact absurd rfl hne
      | cons x t => exact ⟨x, t, rfl⟩
    rw [cyF, List.any_eq_true] at h
    obtain ⟨b, hb, h⟩ := h
    rw [Bool.and_eq_true, Bool.and_eq_true, Bool.not_eq_true'] at h
    obtain ⟨h1, h2, h3⟩ := h
    have hbn := List.mem_range.1 hb
    have hxn := hx x (by simp)
    have hbm : b ∉ x :: t := fun hm => by
      have : (x :: t).contains b = true := by simpa using hm
      rw [this] at h2; cases h2
    have hok2 : okW xs n ((b :: x :: t).reverse.map f) := by
      rw [List.reverse_cons, List.map_append, List.map_cons, List.map_nil]
      refine okW_snoc hok (by simp) (hf1 b hbn) (fun hm => ?_) ?_
      · obtain ⟨y, hy, e⟩ := List.mem_map.1 hm
        rw [List.mem_reverse] at hy
        exact hbm (hf2 y b (hx y hy) hbn e ▸ hy)
      · have e : lastN ((x :: t).reverse.map f) = f x := by rw [List.reverse_cons, List.map_append, List.map_cons, List.map_nil, lastN_app]
        rw [e, hft x b hxn hbn]
        exact h1
    obtain ⟨suf, s1, s2, s3⟩ := ih (b :: x :: t) h3 (by simp) (fun y hy => by
      rcases List.mem_cons.1 hy with h | h
      · subst h; exact hbn
      · exact hx y h) hok2
    refine ⟨b :: suf, by simp [s1], ?_, ?_⟩
    · rw [List.reverse_cons, List.append_assoc] at s2; exact s2
    · rw [List.reverse_cons, List.append_assoc] at s3; exact s3
/-- the kind of a tour: its results under other names -/
theorem kind_f (hp : tourP n xs) (h7 : n ≤ 7) : ∃ j, j < rc n ∧ ∃ f : Nat → Nat, (∀ i, i < n → f i < n) ∧ (∀ i k, i < n → k < n → f i = f k → i = k) ∧ (∀ b, b < n → ∃ k, k < n ∧ f k = b) ∧ ∀ i k, i < n → k < n → bt xs (f i) (f k) = bN (rp n j) i k := by
  have hln := tour_len hp
  obtain ⟨hs, hd, hx⟩ := tour_bits hp
  rw [hln] at hs hd hx
  obtain ⟨j, hj, q, hq, hqf⟩ := kinds n h7 (bt xs) ⟨hd, hx⟩
  obtain ⟨o1, o2, o3⟩ := ord_at hq
  exact ⟨j, hj, fun i => q.getD i 0, o1, o2, o3, hqf⟩
theorem ct_not (hp : tourP n xs) {T S : Nat} {f : Nat → Nat} (hf1 : ∀ i, i < n → f i < n) (hf3 : ∀ b, b < n → ∃ k, k < n ∧ f k = b) (hf2 : ∀ i k, i < n → k < n → f i = f k → i = k) (hft : ∀ i k, i < n → k < n → bt xs (f i) (f k) = bN T i k) (hc : ctOk n T S = true) : ¬ strP xs n := by
  unfold ctOk at hc
  rw [Bool.and_eq_true, Bool.and_eq_true, List.all_eq_true] at hc
  obtain ⟨⟨c1, c2⟩, c3⟩ := hc
  have c1 : 0 < S := by simpa [Nat.blt_eq] using c1
  have c2 : S < 2 ^ n - 1 := by simpa [Nat.blt_eq] using c2
  obtain ⟨i, hi⟩ := Nat.exists_testBit_of_ne_zero (show S ≠ 0 by omega)
  have hin : i < n := by
    rcases Nat.lt_or_ge i n with h | h
    · exact h
    · rw [Nat.testBit_lt_two_pow (Nat.lt_of_lt_of_le (show S < 2 ^ n by omega) (Nat.pow_le_pow_right (by decide) h))] at hi; cases hi
  obtain ⟨k, hk, hkn⟩ : ∃ k, k < n ∧ S.testBit k = false := by
    refine Classical.byContradiction fun h => ?_
    have : S = 2 ^ n - 1 := full_all (by omega) fun a ha => by
      rcases q : S.testBit a with _ | _
      · exact absurd ⟨a, ha, q⟩ h
      · rfl
    omega
  let g : Nat → Bool := fun y => (List.range n).any fun i => S.testBit i && decide (f i = y)
  have hg : ∀ i, i < n → g (f i) = S.testBit i := fun i hi => by
    rw [Bool.eq_iff_iff]
    show ((List.range n).any fun k => S.testBit k && decide (f k = f i)) = true ↔ _
    rw [List.any_eq_true]
    constructor
    · rintro ⟨k, hk, h⟩
      rw [Bool.and_eq_true, decide_eq_true_eq] at h
      rw [← hf2 k i (List.mem_range.1 hk) hi h.2]; exact h.1
    · intro h
      exact ⟨i, List.mem_range.2 hi, by rw [h]; simp⟩
  refine cut_not hp (f := g) (hf1 i hin) (hf1 k hk) (by rw [hg i hin]; exact hi) (by rw [hg k hk]; exact hkn) fun x y hx hy h1 h2 => ?_
  obtain ⟨p, hp1, rfl⟩ := hf3 x hx
  obtain ⟨r, hr1, rfl⟩ := hf3 y hy
  rw [hg p hp1] at h1
  rw [hg r hr1] at h2
  have := List.all_eq_true.1 (c3 p (List.mem_range.2 hp1)) r (List.mem_range.2 hr1)
  rw [h1, h2] at this
  rw [hft p r hp1 hr1]
  simpa using this
/-- strong tours have cycles of every length through every player -/
theorem cyc_ex (hp : tourP n xs) (h6 : n ≤ 6) (hs : strP xs n) {a k : Nat} (ha : a < n) (hk3 : 3 ≤ k) (hkn : k ≤ n) : ∃ suf : List Nat, (a :: suf).length = k ∧ okW xs n (a :: suf) ∧ bt xs (lastN (a :: suf)) a = true := by
  obtain ⟨j, hj, f, f1, f2, f3, f4⟩ := kind_f hp (by omega)
  have hall := List.all_eq_true.1 (cyc_all n (by omega)) j (List.mem_range.2 hj)
  rw [Bool.or_eq_true] at hall
  rcases hall with h | h
  · exact absurd hs (ct_not hp f1 f3 f2 f4 h)
  · obtain ⟨i, hi, rfl⟩ := f3 a ha
    have h2 := List.all_eq_true.1 (List.all_eq_true.1 h i (List.mem_range.2 hi)) (k - 3) (List.mem_range.2 (by omega))
    rw [show k - 3 + 2 = k - 1 by omega] at h2
    obtain ⟨suf, s1, s2, s3⟩ := cyF_way f1 f2 f4 hi (k - 1) [i] h2 (by simp) (fun x hx => by simp at hx; subst hx; exact hi) (okW_one (f1 i hi))
    refine ⟨suf.map f, by simp [s1]; omega, by simpa using s2, by simpa using s3⟩
/-- strong tours have a cycle through all players -/
theorem ham_ex (hp : tourP n xs) (h3 : 3 ≤ n) (h7 : n ≤ 7) (hs : strP xs n) : ∃ l : List Nat, l.length = n ∧ okW xs n l ∧ bt xs (lastN l) (l.getD 0 0) = true := by
  obtain ⟨j, hj, f, f1, f2, f3, f4⟩ := kind_f hp h7
  have hall := List.all_eq_true.1 (ham_all n (by omega) h3) j (List.mem_range.2 hj)
  rw [Bool.or_eq_true] at hall
  rcases hall with h | h
  · exact absurd hs (ct_not hp f1 f3 f2 f4 h)
  · obtain ⟨suf, s1, s2, s3⟩ := cyF_way f1 f2 f4 (show 0 < n by omega) (n - 1) [0] h (by simp) (fun x hx => by simp at hx; subst hx; omega) (okW_one (f1 0 (by omega)))
    refine ⟨f 0 :: suf.map f, by simp [s1]; omega, by simpa using s2, by simpa using s3⟩
/-- CycleThrough's answers -/
theorem cyc_law (hp : tourP n xs) (h6 : n ≤ 6) {a k : Nat} (ha : a < n) (hk3 : 3 ≤ k) (hkn : k ≤ n) :
    (strP xs n → (cycO n xs a k).isSome = true) ∧ ((cycO n xs a k).isSome = true → cycB n xs (cycL n xs a k) = true ∧ (cycL n xs a k).length = k ∧ (cycL n xs a k).getD 0 0 = a) := by
  have hln := tour_len hp
  have hok : cycOk n xs a k = true := by
    unfold cycOk
    rw [tourB_true.2 hp, show inB (a : Int) 0 ((n : Int) - 1) = true from inB_true.2 ⟨by omega, by omega⟩, show inB (k : Int) 3 (n : Int) = true from inB_true.2 ⟨by omega, by omega⟩]; rfl
  have hO : cycO n xs a k = dfs xs n (cwA xs a) (k - 1) [a] := by unfold cycO; rw [if_pos hok, hln]; rfl
  constructor
  · intro hs
    obtain ⟨suf, s1, s2, s3⟩ := cyc_ex hp h6 hs ha hk3 hkn
    obtain ⟨L, hL⟩ := dfs_complete (want := cwA xs a) (m := k - 1) (way := [a]) (suf := suf) s2 (by simp) s3 (by simp at s1; omega)
    rw [hO, hL]; rfl
  · intro h
    unfold cycL
    rw [hO] at h ⊢
    rcases q : dfs xs n (cwA xs a) (k - 1) [a] with _ | L
    · rw [q] at h; cases h
    · obtain ⟨h1, h2, h3, suf, h4⟩ := dfs_sound q (okW_one ha) (by simp)
      rw [List.length_singleton] at h3
      have h0 : L.getD 0 0 = a := by rw [h4]; rfl
      have hlt : lastN L < n := by unfold lastN; exact h1.2.1 _ (by rw [getD_nat (by omega)]; exact List.getElem_mem _)
      refine ⟨?_, by rw [Option.getD_some, nI_len]; omega, by rw [Option.getD_some, nI_getD (by omega), h0]⟩
      unfold cycB
      rw [Option.getD_some, okW_way hp h1, nI_len, decide_eq_true (show (3 : Int) ≤ (L.length : Int) by omega), Bool.true_and, Bool.true_and, nI_getD (by omega), nI_getD (by omega), h0, Int.toNat_natCast, Int.toNat_natCast]
      obtain ⟨S, e, -⟩ := (tour_bits hp).1 (lastN L) (by rw [hln]; exact hlt)
      have : bitI (xs.getD (lastN L) 0) a = bt xs (lastN L) a := bitI_bt e
      unfold lastN at this
      rw [this]
      exact h2
/-- WayBetween's answers -/
theorem wb_law (hp : tourP n xs) {a b : Nat} (ha : a < n) (hb : b < n) :
    (wbO n xs a b).isSome = (reachN xs a).testBit b ∧ ((wbO n xs a b).isSome = true → wayB n xs (wbL n xs a b) = true ∧ 1 ≤ (wbL n xs a b).length ∧ (wbL n xs a b).length ≤ 8 ∧ (wbL n xs a b).getD 0 0 = a ∧ (wbL n xs a b).getD ((wbL n xs a b).length - 1) 0 = b) := by
  have hln := tour_len hp
  have h8 : n ≤ 8 := by have := hp.1; omega
  have hok : wbOk n xs a b = true := by
    unfold wbOk
    rw [tourB_true.2 hp, show inB (a : Int) 0 ((n : Int) - 1) = true from inB_true.2 ⟨by omega, by omega⟩, show inB (b : Int) 0 ((n : Int) - 1) = true from inB_true.2 ⟨by omega, by omega⟩]; rfl
  have hO : wbO n xs a b = if lv xs n b n a < 0 then none else some (a :: gw xs n b (lv xs n b n a).toNat a) := by unfold wbO; rw [if_pos hok, hln]; rfl
  have hr := reach_facts hp (a := a) (by rw [hln]; exact ha)
  rcases Int.lt_or_le (lv xs n b n a) 0 with hneg | hpos
  · rw [if_pos hneg] at hO
    rw [hO]
    refine ⟨?_, fun h => by cases h⟩
    rcases q : (reachN xs a).testBit b with _ | _
    · rfl
    · exfalso
      obtain ⟨S, hS⟩ : ∃ S, S = setOf (fun x => decide (lv xs n b n x < 0)) n := ⟨_, rfl⟩
      have hSb : ∀ c, S.testBit c = true ↔ c < n ∧ lv xs n b n c < 0 := fun c => by rw [hS, testBit_setOf]; simp
      have hclo : clo xs S := fun x y hx hy => by
        obtain ⟨hx1, hx2⟩ := (hSb x).1 hx
        have hyn := bt_hi hp hx1 hy
        refine (hSb y).2 ⟨hyn, ?_⟩
        refine Int.not_le.1 fun h => ?_
        obtain ⟨d, hd⟩ := Int.eq_ofNat_of_zero_le h
        have := (lv_step (a := x) (mem_memN.2 ⟨hyn, hy⟩) hd (lv_top hyn hd)).1
        omega
      have := hr.2.2.1 S hclo ((hSb a).2 ⟨ha, hneg⟩) b q
      have := ((hSb b).1 this).2
      rw [lv_b] at this
      omega
  · rw [if_neg (by omega)] at hO
    obtain ⟨d, hd⟩ := Int.eq_ofNat_of_zero_le hpos
    have hdn := lv_top ha hd
    have hdf := dfs_gw d [a] hdn (by simp) hd (fun x hx => by simp at hx; subst hx; omega)
    obtain ⟨h1, h2, h3, suf, h4⟩ := dfs_sound hdf (okW_one ha) (by simp)
    have eL : [a] ++ gw xs n b d (lastN [a]) = a :: gw xs n b d a := rfl
    rw [eL] at h1 h2 h3
    have hL : wbL n xs a b = nI (a :: gw xs n b d a) := by unfold wbL; rw [hO, hd]; rfl
    have hlast : lastN (a :: gw xs n b d a) = b := by unfold wB at h2; simpa using h2
    refine ⟨?_, fun _ => ?_⟩
    · rw [hO]
      have key : ∀ k, k < (a :: gw xs n b d a).length → (reachN xs a).testBit ((a :: gw xs n b d a).getD k 0) = true := by
        intro k
        induction k with
        | zero => intro _; exact hr.1
        | succ k ih =>
          intro hk
          exact hr.2.1 _ _ (ih (by omega)) (h1.2.2 k hk)
      have := key ((a :: gw xs n b d a).length - 1) (by simp)
      rw [show (a :: gw xs n b d a).getD ((a :: gw xs n b d a).length - 1) 0 = b from hlast] at this
      rw [this]; rfl
    · rw [hL]
      refine ⟨okW_way hp h1, by rw [nI_len, h3]; simp, by rw [nI_len, h3]; simp; omega, by rw [nI_getD (by simp)]; rfl, ?_⟩
      rw [nI_len, nI_getD (by simp)]
      rw [show (a :: gw xs n b d a).getD ((a :: gw xs n b d a).length - 1) 0 = b from hlast]
/-- how far the law's round over the parts has come -/
def PtI (n : Nat) (xs : List Int) (i all : Nat) : Prop :=
  ∃ S pre, partsN xs (2 ^ n - 1) = pre ++ partsN xs S ∧ pre.length = i ∧ S < 2 ^ n ∧ clo xs S ∧ all = less (2 ^ n - 1) S ∧ ∀ T ∈ pre, ∀ c, S.testBit c = true → T.testBit c = false
theorem pt_start (hp : tourP n xs) : PtI n xs 0 0 :=
  ⟨2 ^ n - 1, [], rfl, rfl, by have := Nat.one_le_two_pow (n := n); omega, by have := clo_full hp; rwa [tour_len hp] at this, (Nat.eq_of_testBit_eq fun a => by rw [testBit_less, Nat.zero_testBit]; cases (2 ^ n - 1).testBit a <;> rfl), fun T h => by cases h⟩
theorem pt_end (hp : tourP n xs) {all : Nat} (h : PtI n xs (partsN xs (2 ^ n - 1)).length all) : all = 2 ^ n - 1 := by
  obtain ⟨S, pre, e, hl, hS, hc, hall, -⟩ := h
  have hz : S = 0 := by
    refine Classical.byContradiction fun h0 => ?_
    rw [partsN_step hp (by rw [tour_len hp]; exact hS) hc h0] at e
    have := congrArg List.length e
    rw [List.length_append, List.length_cons] at this
    omega
  rw [hall, hz]
  exact Nat.eq_of_testBit_eq fun a => by rw [testBit_less, Nat.zero_testBit]; simp
theorem pt_all (_hp : tourP n xs) {i all : Nat} (h : PtI n xs i all) : all < 2 ^ n := by
  obtain ⟨S, pre, -, -, -, -, hall, -⟩ := h
  rw [hall]
  exact less_lt (by have := Nat.one_le_two_pow (n := n); omega)
theorem pt_step (hp : tourP n xs) {i all : Nat} (hi : i < (partsN xs (2 ^ n - 1)).length) (h : PtI n xs i all) :
    ∃ T, (partsN xs (2 ^ n - 1)).getD i 0 = T ∧ 1 ≤ T ∧ T < 2 ^ n ∧ all &&& T = 0 ∧ PtI n xs (i + 1) (all ||| T) ∧
      ∀ a, a < n → T.testBit a = true → partI n xs a = i ∧ reachN xs a &&& (all ||| T) = T ∧ ∀ b, b < n → (all ||| T).testBit b = false → bt xs a b = true := by
  have hln := tour_len hp
  obtain ⟨S, pre, e, hl, hS, hc, hall, hpre⟩ := h
  have h0 : S ≠ 0 := fun hz => by
    rw [hz, partsN_zero] at e
    have := congrArg List.length e
    rw [List.append_nil] at this
    omega
  have hst := partsN_step hp (by rw [hln]; exact hS) hc h0
  have hrc := rest_clo hp (by rw [hln]; exact hS) hc
  rw [hln] at hst hrc
  obtain ⟨T, hT⟩ : ∃ T, T = topF xs n S := ⟨_, rfl⟩
  rw [← hT] at hst hrc
  rw [hst] at e
  have hTb : ∀ c, T.testBit c = true ↔ c < n ∧ S.testBit c = true ∧ reachN xs c = S := fun c => by
    rw [hT, testBit_topF, Bool.and_eq_true, Bool.and_eq_true, decide_eq_true_eq, beq_iff_eq]
  have hat : (partsN xs (2 ^ n - 1)).getD i 0 = T := by
    rw [e, getD_app_ge (by omega), hl, Nat.sub_self]; rfl
  have hSn : ∀ c, S.testBit c = true → c < n := fun c h => bit_lt hS h
  have hall2 : all ||| T = less (2 ^ n - 1) (less S T) := Nat.eq_of_testBit_eq fun c => by
    rw [hall, Nat.testBit_or, testBit_less, testBit_less, testBit_less, testBit_full]
    rcases qT : T.testBit c with _ | _
    · simp
    · have := (hTb c).1 qT
      simp [this.1, this.2.1]
  refine ⟨T, hat, ?_, ?_, ?_, ⟨less S T, pre ++ [T], by rw [e]; simp, by simp [hl], less_lt hS, hrc, hall2, ?_⟩, ?_⟩
  · refine Nat.pos_of_ne_zero fun hz => ?_
    obtain ⟨a, ha⟩ := Nat.exists_testBit_of_ne_zero h0
    obtain ⟨b, hb, hbS⟩ := top_some hp (by rw [hln]; exact hS) hc (8 - scK xs a) a ha (Nat.le_refl _)
    have := (hTb b).2 ⟨hSn b hb, hb, hbS⟩
    rw [hz, Nat.zero_testBit] at this
    cases this
  · exact lt_of_testBit fun m hm => by
      rcases q : T.testBit m with _ | _
      · rfl
      · have := ((hTb m).1 q).1; omega
  · refine Nat.eq_of_testBit_eq fun c => ?_
    rw [hall, Nat.testBit_and, testBit_less, Nat.zero_testBit]
    rcases qT : T.testBit c with _ | _
    · simp
    · simp [((hTb c).1 qT).2.1]
  · intro U hU c hcS
    rw [testBit_less, Bool.and_eq_true, Bool.not_eq_true'] at hcS
    rcases List.mem_append.1 hU with h | h
    · exact hpre U h c hcS.1
    · simp at h; subst h; exact hcS.2
  · intro a ha haT
    obtain ⟨-, haS, hra⟩ := (hTb a).1 haT
    refine ⟨?_, ?_, fun b hb hbn => ?_⟩
    · unfold partI
      rw [tourB_true.2 hp, show inB (a : Int) 0 ((n : Int) - 1) = true from inB_true.2 ⟨by omega, by omega⟩, Bool.and_self, if_pos rfl, hln, Int.toNat_natCast]
      refine findI_hit (by rw [nI_len]; exact hi) ?_ fun x hx => ?_
      · rw [← List.getD_eq_getElem?_getD, nI_getD hi, hat]
        unfold partP
        rw [Int.toNat_natCast]; exact haT
      · obtain ⟨k, hk, rfl⟩ := List.getElem_of_mem hx
        rw [List.length_take, nI_len] at hk
        rw [List.getElem_take]
        unfold nI partP
        rw [List.getElem_map, Int.toNat_natCast]
        have hkp : k < pre.length := by omega
        have : (partsN xs (2 ^ n - 1))[k]'(by omega) = pre[k] := by
          simp only [e]
          rw [List.getElem_append_left hkp]
        rw [this]
        exact hpre _ (List.getElem_mem _) a haS
    · rw [hra, hall2]
      refine Nat.eq_of_testBit_eq fun c => ?_
      rw [Nat.testBit_and, testBit_less, testBit_less, testBit_full]
      rcases qS : S.testBit c with _ | _
      · rcases qT : T.testBit c with _ | _
        · rfl
        · rw [((hTb c).1 qT).2.1] at qS; cases qS
      · have := hSn c qS
        simp [this]
    · rw [hall2, testBit_less, testBit_full, decide_eq_true hb, Bool.true_and, Bool.not_eq_false', testBit_less, Bool.and_eq_true, Bool.not_eq_true'] at hbn
      obtain ⟨hbS, hbT⟩ := hbn
      rcases q : bt xs a b with _ | _
      · exfalso
        have hab : a ≠ b := fun h => by subst h; rw [haT] at hbT; cases hbT
        have hba : bt xs b a = true := by rw [(tr_bit hp hb ha).2 (Ne.symm hab), q]; rfl
        have hrb := reach_facts hp (a := b) (by rw [hln]; exact hb)
        have hra2 := reach_facts hp (a := a) (by rw [hln]; exact ha)
        have hca : (reachN xs b).testBit a = true := hrb.2.1 b a hrb.1 hba
        have h1 : reachN xs b = S := sub_eq (fun c h => hrb.2.2.1 S hc hbS c h) fun c h => by
          rw [← hra] at h
          exact hra2.2.2.1 _ hrb.2.1 hca c h
        have := (hTb b).2 ⟨hb, hbS, h1⟩
        rw [this] at hbT; cases hbT
      · rfl
end
end Go.Proofs.YtbkiedhaacapbaaGreat

namespace Go.Proofs.YtbkiedhaacapbaaGreat
open Go.RowKit Go.Sort
set_option maxRecDepth 100000
theorem same_true (xs ys : List Int) (h : xs.length = ys.length) (HP : ∀ j, j < xs.length → xs.getD j 0 = ys.getD j 0) : decide (xs = ys) = true := by
  rw [decide_eq_true]
  apply List.ext_getElem h
  intro i h1 h2
  have := HP i h1
  simpa [h1, h2] using this
set_option maxHeartbeats 400000 in
theorem lsame_any (v1 v2 : Value) (xs ys : List Int) (w : World) (h1 : Rd w v1 xs) (h2 : Rd w v2 ys) :
    Calls Tryz.prog 16 #[v1, v2] w fun e w' => e = .returned (.bool (decide (xs = ys))) ∧ w = w' := by
  obtain ⟨A, c, rfl, hl1, hm1, hc1⟩ := h1
  obtain ⟨B, d, rfl, hl2, hm2, hc2⟩ := h2
  unfold maxLen at hm1 hm2
  generalize hn : xs.length = n at *
  generalize hm : ys.length = m at *
  have H1 := Lib.hid hn
  have H2 := Lib.hid hm
  have H3 := Lib.hid hc1
  have H4 := Lib.hid hc2
  clear hn hm hc1 hc2
  by_cases hnm : n = m
  · subst hnm
    have hne : ((n : Int) != (n : Int)) = false := by simp
    go_enter Tryz.func16, Tryz.ntmps16
    go_wp2
    go_loop [14] (fun i => ∃ k : Nat, k ≤ n ∧ i = .int .i64 k ∧ Hid (∀ j, j < k → xs.getD j 0 = ys.getD j 0)) (fun i => n - (intOf i).toNat)
    case atStart => exact ⟨0, by omega, rfl, fun j hj => absurd hj (by omega)⟩
    case round =>
      obtain ⟨k, hk, rfl, HP⟩ := hrel
      by_cases hlt : k < n
      · obtain ⟨b, off, rfl, hb, hx⟩ := H3.out (by omega)
        obtain ⟨b', off', rfl, hb', hy⟩ := H4.out (by omega)
        have hxk := hx k hlt
        have hyk := hy k hlt
        clear hx hy
        generalize hX : xs.getD k 0 = X at *
        generalize hY : ys.getD k 0 = Y at *
        have HXE := Lib.hid hX
        have HYE := Lib.hid hY
        clear hX hY
        by_cases hXY : X = Y
        · have hne2 : (X != Y) = false := by simp [hXY]
          have HP2 : Hid (∀ j, j < k + 1 → xs.getD j 0 = ys.getD j 0) := Lib.hid fun j hj => by
            by_cases hjk : j < k
            · exact HP.out j hjk
            · obtain rfl : j = k := by omega
              rw [HXE.out, HYE.out, hXY]
          clear hXY
          go_wp2
          go_round
          case rel => exact ⟨k + 1, by omega, by go_num, HP2⟩
          case measure => simp [intOf]; omega
        · have hne2 : (X != Y) = true := by simp [hXY]
          go_wp2
          go_ret
          refine ⟨ret_bool ?_, rfl⟩
          refine (decide_eq_false ?_).symm
          rintro rfl
          exact hXY (HXE.out.symm.trans HYE.out)
      · have hge : ¬ ((k : Int) < (n : Int)) := by omega
        go_wp2
        go_ret
        exact ⟨ret_bool (same_true xs ys (by rw [H1.out, H2.out]) fun j hj => HP.out j (by have := H1.out; omega)).symm, rfl⟩
  · have hne : ((n : Int) != (m : Int)) = true := by simp; omega
    go_enter Tryz.func16, Tryz.ntmps16
    go_wp2
    go_ret
    refine ⟨ret_bool (decide_eq_false ?_).symm, rfl⟩
    rintro rfl
    exact hnm (H1.out.symm.trans H2.out)
theorem same_yes (v1 v2 : Value) (xs : List Int) (w : World) (h1 : Rd w v1 xs) (h2 : Rd w v2 xs) :
    Calls Tryz.prog 16 #[v1, v2] w fun e w' => e = .returned (.bool true) ∧ w = w' := by
  have := lsame_any v1 v2 xs xs w h1 h2
  rwa [decide_eq_true (rfl : xs = xs)] at this
end Go.Proofs.YtbkiedhaacapbaaGreat

namespace Go.Proofs.YtbkiedhaacapbaaGreat
open Go.RowKit Go.Sort
set_option maxRecDepth 100000
theorem rows_info : (Tryz.prog.info? 23).map (fun i => (i.zero, i.size, i.bytes)) = some (some (.slice none 0 0), 1, 24) := by kernel_rfl
theorem ownsRow_below {w w' : World} {base size n : Nat} {e : TypeId} {v : Value} {xs : List Value} (h : w.ownsRow base e size v n xs) (hb : Below w.heap.size w w') : w'.ownsRow base e size v n xs := by
  refine ⟨h.1, ?_⟩
  rcases h.2 with h0 | ⟨g, cap, cur, hv, hg, hh, r⟩
  · exact .inl h0
  · exact .inr ⟨g, cap, cur, hv, hg, by rw [hb.block g (Array.getElem?_eq_some_iff.1 hh).1]; exact hh, r⟩
theorem ownsRow_mono {w : World} {base b' size n : Nat} {e : TypeId} {v : Value} {xs : List Value} (h : w.ownsRow base e size v n xs) (hb : b' ≤ base) : w.ownsRow b' e size v n xs := by
  refine ⟨h.1, ?_⟩
  rcases h.2 with h0 | ⟨g, cap, cur, hv, hg, r⟩
  · exact .inl h0
  · exact .inr ⟨g, cap, cur, hv, by omega, r⟩
/-- rows of different element types lie in different blocks -/
theorem types_part {w : World} {b1 b2 s1 s2 n1 n2 : Nat} {e1 e2 : TypeId} {v1 v2 : Value} {x1 x2 : List Value} (h1 : w.ownsRow b1 e1 s1 v1 n1 x1) (h2 : w.ownsRow b2 e2 s2 v2 n2 x2) (hne : e1 ≠ e2) : v1.ownBlock = none ∨ v1.ownBlock ≠ v2.ownBlock := by
  rcases h1.2 with ⟨rfl, _⟩ | ⟨g1, c1, cur1, rfl, _, hg1, _⟩
  · exact .inl rfl
  · right
    rcases h2.2 with ⟨rfl, _⟩ | ⟨g2, c2, cur2, rfl, _, hg2, _⟩
    · simp [Value.ownBlock]
    · intro e
      simp only [Value.ownBlock, Option.some.injEq] at e
      subst e
      rw [hg1] at hg2
      simp only [Option.some.injEq, Obj.cells.injEq] at hg2
      exact hne hg2.2.1
theorem apart_symm' {a b : Option Nat} (h : a = none ∨ a ≠ b) : b = none ∨ b ≠ a := by
  rcases h with h | h
  · subst h; cases b <;> simp
  · exact .inr (Ne.symm h)
def OwnRowsU (w : World) (base : Nat) (v : Value) (us : List Value) (rows : List (List Int)) : Prop :=
  us.length = rows.length ∧ w.ownsRow base 23 1 v rows.length us ∧ (∀ k, k < rows.length → Own w base (us.getD k (.slice none 0 0)) (rows.getD k [])) ∧
    ∀ i j, i < j → j < rows.length → (us.getD i (.slice none 0 0)).ownBlock = none ∨ (us.getD i (.slice none 0 0)).ownBlock ≠ (us.getD j (.slice none 0 0)).ownBlock
def OwnRows (w : World) (base : Nat) (v : Value) (rows : List (List Int)) : Prop := ∃ us : List Value, OwnRowsU w base v us rows
theorem OwnRows.nil_ (w : World) (base : Nat) : OwnRows w base (.slice none 0 0) [] := ⟨[], rfl, World.ownsRow_nil _ _ _ _, fun k h => absurd h (by simp), fun i j _ h => absurd h (by simp)⟩
theorem OwnRows.lit0 (w : World) (base : Nat) (hb : base ≤ w.heap.size) : OwnRows (w.alloc (.cells #[] 23)) base (.slice (some ⟨w.heap.size, 0, none⟩) 0 0) [] := by
  have := World.ownsRow_lit (e := 23) (size := 1) w #[] 0 hb (by unfold maxLen; omega) (by simp)
  exact ⟨[], rfl, by simpa using this, fun k h => absurd h (by simp), fun i j _ h => absurd h (by simp)⟩
theorem OwnRowsU.below {w w' : World} {base : Nat} {v : Value} {us : List Value} {rows : List (List Int)} (h : OwnRowsU w base v us rows) (hb : Below w.heap.size w w') : OwnRowsU w' base v us rows := by
  obtain ⟨hl, ho, hr, hd⟩ := h
  exact ⟨hl, ownsRow_below ho hb, fun k hk => (hr k hk).below hb, hd⟩
theorem OwnRows.below {w w' : World} {base : Nat} {v : Value} {rows : List (List Int)} (h : OwnRows w base v rows) (hb : Below w.heap.size w w') : OwnRows w' base v rows := by
  obtain ⟨us, h⟩ := h
  exact ⟨us, h.below hb⟩
theorem OwnRows.mono {w : World} {base b' : Nat} {v : Value} {rows : List (List Int)} (h : OwnRows w base v rows) (hb : b' ≤ base) : OwnRows w b' v rows := by
  obtain ⟨us, hl, ho, hr, hd⟩ := h
  exact ⟨us, hl, ownsRow_mono ho hb, fun k hk => (hr k hk).mono hb, hd⟩
/-- a change of one block that is not among these rows: one that is older than all of them -/
theorem OwnRows.kept_lo {w w' : World} {base : Nat} {v : Value} {rows : List (List Int)} (h : OwnRows w base v rows) {row : Option Nat} (hg : w.grownBy w' row) (hlt : ∀ g, row = some g → g < base) : OwnRows w' base v rows := by
  obtain ⟨us, hl, ho, hr, hd⟩ := h
  have key : ∀ {u : Value}, (∀ k, u.ownBlock = some k → base ≤ k ∧ k < w.heap.size) → u.ownBlock = none ∨ u.ownBlock ≠ row := by
    intro u hu
    rcases q : u.ownBlock with _ | k
    · exact .inl rfl
    · right
      intro e
      have := (hu k q).1
      have := hlt k e.symm
      omega
  exact ⟨us, hl, World.ownsRow.kept ho hg (key (World.ownsRow.lt ho)), fun k hk => (hr k hk).kept hg (key (hr k hk).lt), hd⟩
theorem OwnRows.lt {w : World} {base : Nat} {v : Value} {rows : List (List Int)} (h : OwnRows w base v rows) : ∀ k, v.ownBlock = some k → base ≤ k ∧ k < w.heap.size := by
  obtain ⟨us, hl, ho, hr, hd⟩ := h
  exact World.ownsRow.lt ho
/-- a row is changed in place -/
theorem OwnRowsU.row {w w' : World} {base : Nat} {v : Value} {us : List Value} {rows : List (List Int)} (h : OwnRowsU w base v us rows) {i : Nat} {ys : List Int} (hi : i < rows.length)
    (ho' : Own w' base (us.getD i (.slice none 0 0)) ys) (hg : w.grownBy w' (us.getD i (.slice none 0 0)).ownBlock) : OwnRowsU w' base v us (rows.set i ys) := by
  obtain ⟨hl, ho, hr, hd⟩ := h
  refine ⟨by simp [hl], ?_, fun k hk => ?_, fun a b hab hb => hd a b hab (by simpa using hb)⟩
  · rw [List.length_set]
    exact World.ownsRow.kept ho hg (apart_symm' (types_part (hr i hi) ho (by decide)))
  · rw [List.length_set] at hk
    by_cases hik : i = k
    · subst hik
      rw [show (rows.set i ys).getD i [] = ys by simp [List.getD_eq_getElem?_getD, hk]]
      exact ho'
    · rw [show (rows.set i ys).getD k [] = rows.getD k [] by simp [List.getD_eq_getElem?_getD, List.getElem?_set_ne hik]]
      refine (hr k hk).kept hg ?_
      rcases Nat.lt_or_gt_of_ne hik with h1 | h1
      · exact apart_symm' (hd i k h1 hk)
      · exact hd k i h1 hi
theorem OwnRows.form {w : World} {base : Nat} {v : Value} {rows : List (List Int)} (h : OwnRows w base v rows) : ∃ A c, v = .slice A rows.length c ∧ c ≤ maxLen ∧ rows.length ≤ c ∧
    (0 < rows.length → ∃ g, A = some ⟨g, 0, none⟩ ∧ g < w.heap.size ∧ ∀ k, k < rows.length → ∃ (B : Option Addr) (d : Nat), w.cell? ⟨g, k, none⟩ = some (.slice B (rows.getD k []).length d) ∧ Own w base (.slice B (rows.getD k []).length d) (rows.getD k [])) := by
  obtain ⟨us, hl, ho, hr, -⟩ := h
  have hlt := World.ownsRow.lt ho
  have hc := fun g hg => World.ownsRow.cells ho (g := g) hg
  rcases ho.2 with ⟨rfl, e⟩ | ⟨g, cap, cur, rfl, hb, hg, hle, hm, _⟩
  · exact ⟨none, 0, by rw [e], by unfold maxLen; omega, by omega, fun h => absurd h (by omega)⟩
  · refine ⟨_, cap, rfl, hm, hle, fun _ => ⟨g, rfl, (hlt g rfl).2, fun k hk => ?_⟩⟩
    have h1 := hc g rfl k (us.getD k (.slice none 0 0)) (by simp [show k < us.length by omega])
    rw [Addr.add_lit, Nat.zero_add] at h1
    have h2 := hr k hk
    obtain ⟨B, d, e, _⟩ := h2.form
    rw [e] at h1 h2
    exact ⟨B, d, h1, h2⟩
def RdRows (w : World) (v : Value) (rows : List (List Int)) : Prop := ∃ A c, v = .slice A rows.length c ∧ c ≤ maxLen ∧ rows.length ≤ c ∧
    (0 < rows.length → ∃ g, A = some ⟨g, 0, none⟩ ∧ g < w.heap.size ∧ ∀ k, k < rows.length → ∃ u, w.cell? ⟨g, k, none⟩ = some u ∧ Rd w u (rows.getD k []))
theorem OwnRows.rdr {w : World} {base : Nat} {v : Value} {rows : List (List Int)} (h : OwnRows w base v rows) : RdRows w v rows := by
  obtain ⟨A, c, rfl, hc, hl, hx⟩ := h.form
  refine ⟨A, c, rfl, hc, hl, fun h0 => ?_⟩
  obtain ⟨g, rfl, hg, hk⟩ := hx h0
  refine ⟨g, rfl, hg, fun k hkl => ?_⟩
  obtain ⟨B, d, h1, h2⟩ := hk k hkl
  exact ⟨_, h1, h2.rd⟩
theorem RdRows.below {w w' : World} {v : Value} {rows : List (List Int)} (h : RdRows w v rows) (hb : Below w.heap.size w w') : RdRows w' v rows := by
  obtain ⟨A, c, rfl, hc, hl, hx⟩ := h
  refine ⟨A, c, rfl, hc, hl, fun h0 => ?_⟩
  obtain ⟨g, rfl, hg, hk⟩ := hx h0
  refine ⟨g, rfl, Nat.lt_of_lt_of_le hg hb.size, fun k hkl => ?_⟩
  obtain ⟨u, h1, h2⟩ := hk k hkl
  exact ⟨u, by rw [hb.cell (p := ⟨g, k, none⟩) hg]; exact h1, h2.below hb⟩
theorem wp_append1V {ops : Array Oper} {rest : List Oper} {o : Oper} {a : Act} {Q : Exit → Act → World → Prop} (w : World) (hgd : o.guard = none) (s x : Operand)
    (ho : o.op = .call { callee := .builtin .append, args := #[s, x], argTypes := #[97, 97] })
    (base : Nat) (v : Value) (rows : List (List Int)) (u : Value) (xs : List Int) (w0 : World) (hs : a.eval s = v) (hown0 : OwnRows w0 base v rows) (hb0 : Below w0.heap.size w0 w) (hu0 : Own w w0.heap.size u xs) (hbase0 : base ≤ w0.heap.size) (hx : a.eval x = .slice (some ⟨w.heap.size, 0, none⟩) 1 1)
    (hlen : rows.length ≤ 1048576)
    (h : ∀ v' w', OwnRows w' base v' (rows ++ [xs]) → w.grownBy w' v.ownBlock → wpList Tryz.prog ops Q rest (a.put o.dst v') w') :
    wpList Tryz.prog ops Q (o :: rest) a (w.alloc (.cells #[u] 23)) := by
  obtain ⟨i0, hi, hz0, hz1, hz2⟩ := info_parts rows_info
  have hu := hu0.mono hbase0
  have hbase : base ≤ w.heap.size := Nat.le_trans hbase0 hb0.size
  obtain ⟨us, hown0⟩ := hown0
  have hlt0 : ∀ k, k < rows.length → ∀ g, (us.getD k (.slice none 0 0)).ownBlock = some g → g < w0.heap.size := fun k hk g hg => ((hown0.2.2.1 k hk).lt g hg).2
  obtain ⟨hl, hor, hr, hd⟩ := hown0.below hb0
  have hor' : (w.alloc (.cells #[u] 23)).ownsRow base 23 1 v rows.length us := World.ownsRow.alloc hor _
  refine wpList_append_own _ hgd s x 97 ho base 23 i0 (.slice none 0 0) 1 24 Tryz.underlying97 hi hz0 hz1 hz2 rfl (by decide) v rows.length us hs hor' ⟨w.heap.size, 0, none⟩ 1 1 [u] hx rfl ?_ ?_ ?_ ?_ ?_ ?_
  · intro j y hj
    match j, hj with
    | 0, hj => simp at hj; subst hj; simp [Addr.add]
  · intro y hy
    simp at hy
    subst hy
    obtain ⟨B, d, e, _⟩ := hu.form
    rw [e]; rfl
  · unfold maxLen; omega
  · omega
  · simp; omega
  · intro v' w' h1 h2 _
    have h2' := grown_of_alloc h2
    have e1 : ∀ k, k < rows.length → (us ++ [u]).getD k (.slice none 0 0) = us.getD k (.slice none 0 0) := fun k hk => by simp [List.getD_eq_getElem?_getD, List.getElem?_append_left (show k < us.length by omega)]
    have e2 : (us ++ [u]).getD rows.length (.slice none 0 0) = u := by simp [List.getD_eq_getElem?_getD, ← hl]
    refine h v' w' ⟨us ++ [u], by simp [hl], by rw [List.length_append]; exact h1, fun k hk => ?_, fun i j hij hj => ?_⟩ h2'
    · rw [List.length_append, List.length_singleton] at hk
      by_cases hk2 : k < rows.length
      · have e3 : (rows ++ [xs]).getD k [] = rows.getD k [] := by simp [List.getD_eq_getElem?_getD, List.getElem?_append_left hk2]
        rw [e1 k hk2, e3]
        exact (hr k hk2).kept h2' (types_part (hr k hk2) hor (by decide))
      · obtain rfl : k = rows.length := by omega
        have e3 : (rows ++ [xs]).getD rows.length [] = xs := by simp [List.getD_eq_getElem?_getD]
        rw [e2, e3]
        exact hu.kept h2' (types_part hu hor (by decide))
    · rw [List.length_append, List.length_singleton] at hj
      rw [e1 i (by omega)]
      by_cases hj2 : j < rows.length
      · rw [e1 j hj2]; exact hd i j hij hj2
      · obtain rfl : j = rows.length := by omega
        rw [e2]
        rcases q : (us.getD i (.slice none 0 0)).ownBlock with _ | g
        · exact .inl rfl
        · right
          intro e
          have := hlt0 i hij g q
          have := (hu0.lt g e.symm).1
          omega
theorem below_appendV {B : Nat} {a w w' : World} {base : Nat} {v : Value} {rows : List (List Int)} (h : Below B a w) (hg : w.grownBy w' v.ownBlock) (hown : OwnRows w base v rows) (hB : B ≤ base) (hbase : base ≤ w.heap.size) : Below B a w' :=
  h.grown hg (Nat.le_trans hB hbase) (fun k hk => Nat.le_trans hB (hown.lt k hk).1)
end Go.Proofs.YtbkiedhaacapbaaGreat

namespace Go.Proofs.YtbkiedhaacapbaaGreat
open Go.RowKit Go.Sort
set_option maxRecDepth 100000
section
variable {n : Nat} {xs : List Int} {sl : Value} {w : World}
theorem rd_at {A : Option Addr} {c n : Nat} {L : List Int} (h : Rd w (.slice A n c) L) (hl : L.length = n) (h1 : 0 < n) : ∃ g off, A = some ⟨g, off, none⟩ := by
  obtain ⟨A', c', e, -, -, hx⟩ := h
  injection e with e1 _ _
  subst e1
  obtain ⟨g, off, rfl, -, -⟩ := hx (by omega)
  exact ⟨g, off, rfl⟩
theorem rd_cell {g off c n : Nat} {L : List Int} (h : Rd w (.slice (some ⟨g, off, none⟩) n c) L) (hl : L.length = n) {i : Nat} (hi : i < n) : w.cell? ⟨g, off + i, none⟩ = some (.int .i64 (L.getD i 0)) := by
  obtain ⟨A', c', e, -, -, hx⟩ := h
  injection e with e1 _ _
  subst e1
  obtain ⟨g', off', e', -, hc⟩ := hx (by omega)
  injection e' with e'
  injection e' with e1 e2 _
  subst e1 e2
  exact hc i (by omega)
theorem rd_len {A : Option Addr} {c n : Nat} {L : List Int} (h : Rd w (.slice A n c) L) : L.length = n ∧ n ≤ c ∧ c ≤ maxLen := by
  obtain ⟨A', c', e, h1, h2, -⟩ := h
  injection e with _ e2 e3
  subst e3
  omega
theorem rd_rows {A : Option Addr} {c m : Nat} {rows : List (List Int)} (h : RdRows w (.slice A m c) rows) {j : Nat} (hj : j < m) : ∃ g u, A = some ⟨g, 0, none⟩ ∧ w.cell? ⟨g, j, none⟩ = some u ∧ Rd w u (rows.getD j []) := by
  obtain ⟨A', c', e, h1, h2, hx⟩ := h
  injection e with e1 e2 e3
  subst e1
  obtain ⟨g, rfl, -, hc⟩ := hx (by omega)
  obtain ⟨u, h3, h4⟩ := hc j (by omega)
  exact ⟨g, u, rfl, h3, h4⟩
theorem rd_cap {A : Option Addr} {c n : Nat} {L : List Int} (h : Rd w (.slice A n c) L) : c ≤ maxLen := by
  obtain ⟨A', c', e, -, hm, -⟩ := h
  injection e with _ _ e3
  subst e3
  exact hm
theorem in_tour {n : Nat} {c : Nat} (hc : c < n) : inB (c : Int) 0 ((n : Int) - 1) = true := inB_true.2 ⟨by omega, by omega⟩
theorem beat_bt (hp : tourP n xs) {a b : Nat} (ha : a < n) (hb : b < n) : beatB n xs a b = bt xs a b := by
  unfold beatB
  rw [tourB_true.2 hp, in_tour ha, in_tour hb, Int.toNat_natCast, Int.toNat_natCast, bitI_bt (tour_wins hp (tour_len hp ▸ ha)).1]
  rfl
end
end Go.Proofs.YtbkiedhaacapbaaGreat

namespace Go.Proofs.YtbkiedhaacapbaaGreat
open Go.RowKit Go.Sort
set_option maxRecDepth 100000
theorem step_appendE {ops : Array Oper} {o : Oper} {a : Act} {K : Act → World → Prop} {Q : Exit → Act → World → Prop} {E : Prop} (w : World) (hgd : o.guard = none) (s x : Operand)
    (ho : o.op = .call { callee := .builtin .append, args := #[s, x], argTypes := #[23, 23] })
    (base g0 : Nat) (ys : List Int) (m : Nat) (hm : ys.length = m) (h0 : 0 < m) (gx cx : Nat) (hs : a.eval s = .slice (some ⟨g0, 0, none⟩) 0 0) (hown : Own w base (.slice (some ⟨g0, 0, none⟩) 0 0) []) (hx : a.eval x = .slice (some ⟨gx, 0, none⟩) m cx)
    (hc : ∀ k, k < m → w.cell? ⟨gx, k, none⟩ = some (.int .i64 (ys.getD k 0))) (hlen : m ≤ 1099511627776) (hbase : base ≤ w.heap.size)
    (h : ∀ g c w', Own w' base (.slice (some ⟨g, 0, none⟩) m c) ys → w.grownBy w' (some g0) → K (a.put o.dst (.slice (some ⟨g, 0, none⟩) m c)) w') :
    if Region.wanted o (yielded ops a.tmps) = true then Oper.wp Tryz.prog o a w K Q else E := by
  subst hm
  have hw : Region.wanted o (yielded ops a.tmps) = true := by simp [Region.wanted, hgd]
  rw [if_pos hw]
  obtain ⟨i0, hi, hz0, hz1, hz2⟩ := info_parts i64_info
  have hnews : ∀ j u, (ys.map (Value.int .i64))[j]? = some u → w.cell? ((⟨gx, 0, none⟩ : Addr).add j) = some u := by
    intro j u hj
    have hjl : j < ys.length := by simpa using (List.getElem?_eq_some_iff.1 hj).1
    rw [Addr.add_lit, Nat.zero_add, hc j hjl]
    simp [hjl] at hj
    simp [hjl, hj]
  have h1 : ∀ u ∈ ys.map (Value.int .i64), u.oneCell' = true := by intro u hu; simp at hu; obtain ⟨y, -, rfl⟩ := hu; rfl
  obtain ⟨v', w', hr, h2, h3, -, -⟩ := run_append_own_at (P := Tryz.prog) w base 23 o.type 3 i0 (.int .i64 0) 1 8 Tryz.underlying23 hi hz0 hz1 hz2 rfl (by decide) _ 0 [] hown ⟨gx, 0, none⟩ ys.length cx (ys.map (Value.int .i64)) (by simp) hnews h1 (by unfold maxLen; omega) (by omega) hbase
  have h2' : Own w' base v' ys := by unfold Own; simpa using h2
  obtain ⟨A, c', e, -, -, hA⟩ := h2'.form
  obtain ⟨g', rfl, -, -⟩ := hA h0
  subst e
  unfold Oper.wp execOp
  simp only [ho, resolve, invoke, builtin, Sem.run_bind, Sem.run_pure, Result.andThen_ok, List.map_toArray, List.map_cons, List.map_nil, hs, hx, hr]
  exact h g' c' w' h2' h3
theorem fs_filter {β : Type} (l : List Nat) (p : Nat → Bool) (F : Nat → Option β) : (l.filter p).findSome? F = l.findSome? fun b => if p b = true then F b else none := by
  induction l with
  | nil => rfl
  | cons x l ih =>
    rcases q : p x with _ | _
    · rw [List.filter_cons_of_neg (by simp [q]), ih, List.findSome?_cons]; simp [q]
    · rw [List.filter_cons_of_pos q, List.findSome?_cons, List.findSome?_cons, ih]; simp [q]
end Go.Proofs.YtbkiedhaacapbaaGreat

namespace Go.Proofs.YtbkiedhaacapbaaGreat
open Go.RowKit Go.Sort
set_option maxRecDepth 100000
theorem beqNatW (x b : Nat) : ((x : Int) == (b : Int)) = (x == b) := by rw [Bool.eq_iff_iff, beq_iff_eq, beq_iff_eq]; omega
end Go.Proofs.YtbkiedhaacapbaaGreat

