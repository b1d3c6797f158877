/- Texts put together: Perm2, Sym, Sym2, SwC0, LexC, OfBits. -/
import Derived.Test.YtbkiedhaacapbaaGreatMTop18
import Derived.Test.YtbkiedhaacapbaaGreatMTop26
import Derived.Test.YtbkiedhaacapbaaGreatMTop01
import Derived.Test.YtbkiedhaacapbaaGreatMTop02
import Derived.Test.YtbkiedhaacapbaaGreatMTop05
import Derived.Test.YtbkiedhaacapbaaGreatMTop13
namespace Go.Proofs.YtbkiedhaacapbaaGreat
open Go.RowKit Go.Sort
set_option maxRecDepth 100000
end Go.Proofs.YtbkiedhaacapbaaGreat

namespace Go.Proofs.YtbkiedhaacapbaaGreat
open Go.RowKit Go.Sort
set_option maxRecDepth 100000

noncomputable def rnOk (s : Int) (xs ns : List Int) : Bool := tourB s xs && permB xs.length ns
noncomputable def rnS (s : Int) (xs ns : List Int) : Int := if rnOk s xs ns = true then s else 0
noncomputable def rnR (s : Int) (xs ns : List Int) : List Int := if rnOk s xs ns = true then rnL xs ns else []
theorem rn_no {s : Int} {xs ns : List Int} (h : rnOk s xs ns = false) : rnS s xs ns = 0 ∧ rnR s xs ns = [] := by simp [rnS, rnR, h]
theorem rn_yes {s : Int} {xs ns : List Int} (h : rnOk s xs ns = true) : rnS s xs ns = s ∧ rnR s xs ns = rnL xs ns := by simp [rnS, rnR, h]
theorem perm_len_ {n : Nat} {ns : List Int} (h : ns.length ≠ n) : permB n ns = false := permB_false.2 fun hp => h hp.1
noncomputable def symB (s : Int) (xs ns : List Int) : Bool := rnOk s xs ns && decide (xs = rnL xs ns)
end Go.Proofs.YtbkiedhaacapbaaGreat

namespace Go.Proofs.YtbkiedhaacapbaaGreat
open Go.RowKit Go.Sort
set_option maxRecDepth 100000
theorem rnR_len (s : Int) (xs ns : List Int) (h : rnOk s xs ns = true) : 1 ≤ s := by
  unfold rnOk at h
  rw [Bool.and_eq_true] at h
  exact (tourB_true.1 h.1).1.1
end Go.Proofs.YtbkiedhaacapbaaGreat

namespace Go.Proofs.YtbkiedhaacapbaaGreat
open Go.RowKit Go.Sort
set_option maxRecDepth 100000
section
variable {n : Nat} {xs : List Int} {sl : Value} {w : World}
theorem rename_ok (hp : tourP n xs) {q : List Int} (hq : PermP n q) : rnOk n xs q = true := by
  unfold rnOk
  rw [tourB_true.2 hp, permB_true.2 (by rw [tour_len hp]; exact hq)]; rfl
end
end Go.Proofs.YtbkiedhaacapbaaGreat

namespace Go.Proofs.YtbkiedhaacapbaaGreat
open Go.RowKit Go.Sort
set_option maxRecDepth 100000
section
variable {md : Region.Mode} {ops : Array Oper}
def lxPairs (md : Region.Mode) (ops : Array Oper) (k : Nat) (o : Oper) (rest : List Oper) : Bool :=
  rest.all fun oj => oj.after.toList.any (fun e => Region.binds md e && e.on == k) || o.apart ops oj
def lxOk (md : Region.Mode) (ops : Array Oper) : List Oper → Nat → Bool
  | [], _ => true
  | o :: rest, k => (o.after.toList.all fun e => !Region.binds md e || decide (e.on < k)) && lxPairs md ops k o rest && lxOk md ops rest (k + 1)
theorem lexFrom_of : ∀ (l : List Oper) (k : Nat) (listed : Array Bool), (∀ j, l[j]? = ops[k + j]?) → listed.size = ops.size → (∀ j, j < k → j < ops.size → listed.getD j false = true) →
    (∀ j, k ≤ j → j < ops.size → listed.getD j true = false) → lxOk md ops l k = true → Region.lexFrom md ops l.length k listed = true := by
  intro l
  induction l with
  | nil =>
    intro k listed hl hs hlt _ _
    have hk : ops.size ≤ k := by
      have := (hl 0).symm
      simp only [List.getElem?_nil, Nat.add_zero] at this
      exact Array.getElem?_eq_none_iff.1 this
    show (Region.ready md ops listed).isEmpty = true
    rw [List.isEmpty_iff, List.eq_nil_iff_forall_not_mem]
    intro i hi
    obtain ⟨h1, o, ho, -⟩ := mem_ready.1 hi
    have hi2 : i < ops.size := (Array.getElem?_eq_some_iff.1 ho).1
    have h2 := hlt i (by omega) hi2
    have hi3 : i < listed.size := by omega
    simp [hi3] at h1 h2
    rw [h1] at h2
    cases h2
  | cons o rest ih =>
    intro k listed hl hs hlt hge hB
    simp only [lxOk, Bool.and_eq_true] at hB
    obtain ⟨⟨hA, hP⟩, hR⟩ := hB
    have h0 : ops[k]? = some o := by simpa using (hl 0).symm
    have hk : k < ops.size := (Array.getElem?_eq_some_iff.1 h0).1
    show ((Region.ready md ops listed).contains k && Region.free md ops listed k && Region.lexFrom md ops rest.length (k + 1) (listed.setIfInBounds k true)) = true
    rw [Bool.and_eq_true, Bool.and_eq_true]
    refine ⟨⟨?_, ?_⟩, ?_⟩
    · rw [List.contains_iff_mem]
      refine mem_ready.2 ⟨hge k (Nat.le_refl _) hk, o, h0, fun e he hb => ?_⟩
      have h1 := List.all_eq_true.1 hA e (by simpa using he)
      rw [hb] at h1
      simp only [Bool.not_true, Bool.false_or, decide_eq_true_eq] at h1
      exact hlt e.on h1 (by omega)
    · unfold Region.free
      rw [h0]
      simp only [List.all_eq_true, List.mem_range]
      intro j hj
      rw [Bool.or_eq_true, Bool.or_eq_true]
      rcases Nat.lt_trichotomy j k with h | h | h
      · left; right
        have h2 := hlt j h hj
        have hj3 : j < listed.size := by omega
        simp [hj3] at h2 ⊢
        exact h2
      · left; left; simp [h]
      · right
        have hj2 : ops[j]? = some ops[j] := by simp [hj]
        rw [hj2]
        have h3 : rest[j - k - 1]? = some ops[j] := by
          have := hl (j - k)
          rw [show k + (j - k) = j by omega, hj2, show j - k = (j - k - 1) + 1 by omega] at this
          simpa using this
        have h4 := List.all_eq_true.1 hP _ (List.mem_of_getElem? h3)
        rw [Bool.or_eq_true] at h4 ⊢
        rcases h4 with h4 | h4
        · left
          obtain ⟨e, he, hb⟩ := List.any_eq_true.1 h4
          exact Array.any_eq_true'.2 ⟨e, by simpa using he, hb⟩
        · exact .inr h4
    · refine ih (k + 1) _ (fun j => by have := hl (j + 1); simpa [Nat.add_assoc, Nat.add_comm 1 j] using this) (by simp [hs]) (fun j hj hj2 => ?_) (fun j hj hj2 => ?_) hR
      · rcases Nat.lt_or_ge j k with h | h
        · have h2 := hlt j h hj2
          have hj3 : j < listed.size := by omega
          simp [hj3] at h2 ⊢
          rw [Array.getElem_setIfInBounds]
          split
          · rfl
          · exact h2
        · obtain rfl : j = k := by omega
          have hj3 : j < listed.size := by omega
          simp [hj3]
      · have h2 := hge j (by omega) hj2
        have hj3 : j < listed.size := by omega
        simp [hj3] at h2 ⊢
        rw [Array.getElem_setIfInBounds, if_neg (by omega)]
        exact h2
theorem lexB_cheap {l : List Oper} (hs : Region.noSelect l.toArray = true) (h : lxOk md l.toArray l 0 = true) : Region.lexB md l.toArray = true := by
  unfold Region.lexB
  rw [hs, Bool.true_and]
  have := lexFrom_of (md := md) (ops := l.toArray) l 0 (Array.replicate l.toArray.size false) (by simp) (by simp) (fun j hj => by omega) (fun j _ hj => by simp at hj; simp [hj]) h
  simpa using this
end
end Go.Proofs.YtbkiedhaacapbaaGreat

namespace Go.Proofs.YtbkiedhaacapbaaGreat
open Go.RowKit Go.Sort
set_option maxRecDepth 100000
/-- the pairs that are done at (a, b) -/
def donePair (a b x y : Nat) : Prop := (x < a ∨ y < a) ∨ (x = a ∧ y < b) ∨ (y = a ∧ x < b)
/-- the rows of a tour that is half made -/
def HalfT (n a b : Nat) (N : List Int) : Prop := N.length = n ∧ ∃ f : Nat → Nat → Bool,
  (∀ x y, f x y = true → x < n ∧ y < n ∧ x ≠ y ∧ donePair a b x y) ∧ (∀ x y, x < n → y < n → x ≠ y → donePair a b x y → f x y = !f y x) ∧ ∀ x, x < n → N.getD x 0 = ((setOf (f x) n : Nat) : Int)
theorem setOf_more {p q : Nat → Bool} {y : Nat} (h0 : p y = false) (h1 : q y = true) (h2 : ∀ z, z ≠ y → q z = p z) : ∀ {n : Nat}, y < n → setOf q n = setOf p n + 2 ^ y := by
  intro n
  induction n with
  | zero => intro h; omega
  | succ n ih =>
    intro h
    simp only [setOf]
    by_cases e : y = n
    · subst e
      rw [h0, h1, setOf_congr (q := p) (fun j hj => h2 j (by omega))]; simp
    · rw [ih (by omega), h2 n (Ne.symm e)]; omega
theorem HalfT.start (n : Nat) : HalfT n 0 1 (List.replicate n 0) := by
  refine ⟨by simp, fun _ _ => false, fun x y h => by simp at h, fun x y hx hy hxy h => ?_, fun x hx => ?_⟩
  · unfold donePair at h; omega
  · rw [setOf_congr (q := fun _ => false) (fun _ _ => rfl)]
    have : setOf (fun _ => false) n = 0 := by
      clear hx
      induction n with
      | zero => rfl
      | succ n ih => simp [setOf, ih]
    rw [this]; simp [hx]
theorem HalfT.row {n a : Nat} {N : List Int} (h : HalfT n a n N) : HalfT n (a + 1) (a + 2) N := by
  obtain ⟨hl, f, h1, h2, h3⟩ := h
  have e : ∀ x y, x < n → y < n → x ≠ y → (donePair a n x y ↔ donePair (a + 1) (a + 2) x y) := fun x y hx hy hxy => by unfold donePair; omega
  exact ⟨hl, f, fun x y h => ⟨(h1 x y h).1, (h1 x y h).2.1, (h1 x y h).2.2.1, (e x y (h1 x y h).1 (h1 x y h).2.1 (h1 x y h).2.2.1).1 (h1 x y h).2.2.2⟩, fun x y hx hy hxy h => h2 x y hx hy hxy ((e x y hx hy hxy).2 h), h3⟩
/-- one game: u beats v, where {u, v} = {a, b} -/
theorem HalfT.game {n a b u v : Nat} {N : List Int} (h : HalfT n a b N) (hab : a < b) (hb : b < n) (huv : (u = a ∧ v = b) ∨ (u = b ∧ v = a)) {X : Nat} (hX : N.getD u 0 = (X : Int)) : HalfT n a (b + 1) (N.set u ((X + 2 ^ v : Nat) : Int)) := by
  obtain ⟨hl, f, h1, h2, h3⟩ := h
  have n1 : f u v = false := by
    rcases e : f u v with _ | _
    · rfl
    · have := (h1 u v e).2.2.2; unfold donePair at this; omega
  have n2 : f v u = false := by
    rcases e : f v u with _ | _
    · rfl
    · have := (h1 v u e).2.2.2; unfold donePair at this; omega
  refine ⟨by simp [hl], fun x y => f x y || (x == u && y == v), fun x y h => ?_, fun x y hx hy hxy hd => ?_, fun x hx => ?_⟩
  · rw [Bool.or_eq_true, Bool.and_eq_true, beq_iff_eq, beq_iff_eq] at h
    rcases h with h | ⟨rfl, rfl⟩
    · obtain ⟨p1, p2, p3, p4⟩ := h1 x y h
      exact ⟨p1, p2, p3, by unfold donePair at p4 ⊢; omega⟩
    · exact ⟨by omega, by omega, by omega, by unfold donePair; omega⟩
  · by_cases e1 : x = u ∧ y = v
    · obtain ⟨rfl, rfl⟩ := e1
      have : (y == x) = false := by simp; omega
      simp [n1, n2, this]
    · by_cases e2 : x = v ∧ y = u
      · obtain ⟨rfl, rfl⟩ := e2
        have : (x == y) = false := by simp; omega
        simp [n1, n2, this]
      · have hd' : donePair a b x y := by unfold donePair at hd ⊢; omega
        have q1 : (x == u && y == v) = false := by
          rcases q : (x == u && y == v) with _ | _
          · rfl
          · simp at q; exact absurd q e1
        have q2 : (y == u && x == v) = false := by
          rcases q : (y == u && x == v) with _ | _
          · rfl
          · simp at q; exact absurd ⟨q.2, q.1⟩ e2
        simp only [q1, q2, Bool.or_false]
        exact h2 x y hx hy hxy hd'
  · by_cases e : x = u
    · subst e
      rw [show (N.set x ((X + 2 ^ v : Nat) : Int)).getD x 0 = ((X + 2 ^ v : Nat) : Int) by simp [List.getD_eq_getElem?_getD, show x < N.length by omega]]
      have e3 : setOf (f x) n = X := by have := h3 x hx; omega
      rw [setOf_more (p := f x) (y := v) n1 (by simp) (fun z hz => by simp [hz]) (by omega), e3]
    · rw [show (N.set u ((X + 2 ^ v : Nat) : Int)).getD x 0 = N.getD x 0 by simp [List.getD_eq_getElem?_getD, List.getElem?_set_ne (Ne.symm e)], h3 x hx]
      have : setOf (fun y => f x y || (x == u && y == v)) n = setOf (f x) n := setOf_congr fun j _ => by simp [e]
      rw [this]
theorem HalfT.lt {n a b : Nat} {N : List Int} (h : HalfT n a b N) {x : Nat} (hx : x < n) : ∃ X : Nat, N.getD x 0 = (X : Int) ∧ X < 2 ^ n := by
  obtain ⟨hl, f, h1, h2, h3⟩ := h
  exact ⟨_, h3 x hx, setOf_lt _ _⟩
theorem HalfT.tour {n b : Nat} {N : List Int} (h : HalfT n n b N) (h1 : 1 ≤ n) (h8 : n ≤ 8) : tourP n N := by
  obtain ⟨hl, f, q1, q2, q3⟩ := h
  have hb : ∀ x y, x < n → bt N x y = (decide (y < n) && f x y) := fun x y hx => by
    unfold bt winsN
    rw [q3 x hx, Int.toNat_natCast, testBit_setOf]
  refine tour_of_bits (by omega) (by omega) (fun i hi => ⟨_, q3 i (by omega), by rw [hl]; exact setOf_lt _ _⟩) (fun a ha => ?_) (fun a c ha hc hac => ?_)
  · rw [hb a a (by omega)]
    rcases e : f a a with _ | _
    · simp
    · exact absurd rfl (q1 a a e).2.2.1
  · rw [hb a c (by omega), hb c a (by omega), q2 a c (by omega) (by omega) hac (by unfold donePair; omega)]
    simp [show a < n by omega, show c < n by omega]
end Go.Proofs.YtbkiedhaacapbaaGreat

