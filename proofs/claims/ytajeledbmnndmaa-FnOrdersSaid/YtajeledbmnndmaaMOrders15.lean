/- Texts put together: LexC, OfBits, Of, Cur, Draw2. -/
import Derived.Test.YtajeledbmnndmaaMOrders01
import Derived.Test.YtajeledbmnndmaaMOrders02
import Derived.Deep.RegionLaw
import Derived.Test.YtajeledbmnndmaaMOrders06
namespace Go.Proofs.Ytajeledbmnndmaa
open Go.RowKit Go.Sort
set_option maxRecDepth 100000
section
variable {md : Region.Mode} {ops : Array Oper}
def lxPairs (md : Region.Mode) (ops : Array Oper) (k : Nat) (o : Oper) (rest : List Oper) : Bool :=
  rest.all fun oj => oj.after.toList.any (fun e => Region.binds md e && e.on == k) || o.apart ops oj
def lxOk (md : Region.Mode) (ops : Array Oper) : List Oper → Nat → Bool
  | [], _ => true
  | o :: rest, k => (o.after.toList.all fun e => !Region.binds md e || decide (e.on < k)) && lxPairs md ops k o rest && lxOk md ops rest (k + 1)
theorem lexFrom_of : ∀ (l : List Oper) (k : Nat) (listed : Array Bool), (∀ j, l[j]? = ops[k + j]?) → listed.size = ops.size → (∀ j, j < k → j < ops.size → listed.getD j false = true) →
    (∀ j, k ≤ j → j < ops.size → listed.getD j true = false) → lxOk md ops l k = true → Region.lexFrom md ops l.length k listed = true := by
  intro l
  induction l with
  | nil =>
    intro k listed hl hs hlt _ _
    have hk : ops.size ≤ k := by
      have := (hl 0).symm
      simp only [List.getElem?_nil, Nat.add_zero] at this
      exact Array.getElem?_eq_none_iff.1 this
    show (Region.ready md ops listed).isEmpty = true
    rw [List.isEmpty_iff, List.eq_nil_iff_forall_not_mem]
    intro i hi
    obtain ⟨h1, o, ho, -⟩ := mem_ready.1 hi
    have hi2 : i < ops.size := (Array.getElem?_eq_some_iff.1 ho).1
    have h2 := hlt i (by omega) hi2
    have hi3 : i < listed.size := by omega
    simp [hi3] at h1 h2
    rw [h1] at h2
    cases h2
  | cons o rest ih =>
    intro k listed hl hs hlt hge hB
    simp only [lxOk, Bool.and_eq_true] at hB
    obtain ⟨⟨hA, hP⟩, hR⟩ := hB
    have h0 : ops[k]? = some o := by simpa using (hl 0).symm
    have hk : k < ops.size := (Array.getElem?_eq_some_iff.1 h0).1
    show ((Region.ready md ops listed).contains k && Region.free md ops listed k && Region.lexFrom md ops rest.length (k + 1) (listed.setIfInBounds k true)) = true
    rw [Bool.and_eq_true, Bool.and_eq_true]
    refine ⟨⟨?_, ?_⟩, ?_⟩
    · rw [List.contains_iff_mem]
      refine mem_ready.2 ⟨hge k (Nat.le_refl _) hk, o, h0, fun e he hb => ?_⟩
      have h1 := List.all_eq_true.1 hA e (by simpa using he)
      rw [hb] at h1
      simp only [Bool.not_true, Bool.false_or, decide_eq_true_eq] at h1
      exact hlt e.on h1 (by omega)
    · unfold Region.free
      rw [h0]
      simp only [List.all_eq_true, List.mem_range]
      intro j hj
      rw [Bool.or_eq_true, Bool.or_eq_true]
      rcases Nat.lt_trichotomy j k with h | h | h
      · left; right
        have h2 := hlt j h hj
        have hj3 : j < listed.size := by omega
        simp [hj3] at h2 ⊢
        exact h2
      · left; left; simp [h]
      · right
        have hj2 : ops[j]? = some ops[j] := by simp [hj]
        rw [hj2]
        have h3 : rest[j - k - 1]? = some ops[j] := by
          have := hl (j - k)
          rw [show k + (j - k) = j by omega, hj2, show j - k = (j - k - 1) + 1 by omega] at this
          simpa using this
        have h4 := List.all_eq_true.1 hP _ (List.mem_of_getElem? h3)
        rw [Bool.or_eq_true] at h4 ⊢
        rcases h4 with h4 | h4
        · left
          obtain ⟨e, he, hb⟩ := List.any_eq_true.1 h4
          exact Array.any_eq_true'.2 ⟨e, by simpa using he, hb⟩
        · exact .inr h4
    · refine ih (k + 1) _ (fun j => by have := hl (j + 1); simpa [Nat.add_assoc, Nat.add_comm 1 j] using this) (by simp [hs]) (fun j hj hj2 => ?_) (fun j hj hj2 => ?_) hR
      · rcases Nat.lt_or_ge j k with h | h
        · have h2 := hlt j h hj2
          have hj3 : j < listed.size := by omega
          simp [hj3] at h2 ⊢
          rw [Array.getElem_setIfInBounds]
          split
          · rfl
          · exact h2
        · obtain rfl : j = k := by omega
          have hj3 : j < listed.size := by omega
          simp [hj3]
      · have h2 := hge j (by omega) hj2
        have hj3 : j < listed.size := by omega
        simp [hj3] at h2 ⊢
        rw [Array.getElem_setIfInBounds, if_neg (by omega)]
        exact h2
theorem lexB_cheap {l : List Oper} (hs : Region.noSelect l.toArray = true) (h : lxOk md l.toArray l 0 = true) : Region.lexB md l.toArray = true := by
  unfold Region.lexB
  rw [hs, Bool.true_and]
  have := lexFrom_of (md := md) (ops := l.toArray) l 0 (Array.replicate l.toArray.size false) (by simp) (by simp) (fun j hj => by omega) (fun j _ hj => by simp at hj; simp [hj]) h
  simpa using this
end
end Go.Proofs.Ytajeledbmnndmaa

namespace Go.Proofs.Ytajeledbmnndmaa
open Go.RowKit Go.Sort
set_option maxRecDepth 100000
/-- the pairs that are done at (a, b) -/
def donePair (a b x y : Nat) : Prop := (x < a ∨ y < a) ∨ (x = a ∧ y < b) ∨ (y = a ∧ x < b)
/-- the rows of a tour that is half made -/
def HalfT (n a b : Nat) (N : List Int) : Prop := N.length = n ∧ ∃ f : Nat → Nat → Bool,
  (∀ x y, f x y = true → x < n ∧ y < n ∧ x ≠ y ∧ donePair a b x y) ∧ (∀ x y, x < n → y < n → x ≠ y → donePair a b x y → f x y = !f y x) ∧ ∀ x, x < n → N.getD x 0 = ((setOf (f x) n : Nat) : Int)
theorem setOf_more {p q : Nat → Bool} {y : Nat} (h0 : p y = false) (h1 : q y = true) (h2 : ∀ z, z ≠ y → q z = p z) : ∀ {n : Nat}, y < n → setOf q n = setOf p n + 2 ^ y := by
  intro n
  induction n with
  | zero => intro h; omega
  | succ n ih =>
    intro h
    simp only [setOf]
    by_cases e : y = n
    · subst e
      rw [h0, h1, setOf_congr (q := p) (fun j hj => h2 j (by omega))]; simp
    · rw [ih (by omega), h2 n (Ne.symm e)]; omega
theorem HalfT.start (n : Nat) : HalfT n 0 1 (List.replicate n 0) := by
  refine ⟨by simp, fun _ _ => false, fun x y h => by simp at h, fun x y hx hy hxy h => ?_, fun x hx => ?_⟩
  · unfold donePair at h; omega
  · rw [setOf_congr (q := fun _ => false) (fun _ _ => rfl)]
    have : setOf (fun _ => false) n = 0 := by
      clear hx
      induction n with
      | zero => rfl
      | succ n ih => simp [setOf, ih]
    rw [this]; simp [hx]
theorem HalfT.row {n a : Nat} {N : List Int} (h : HalfT n a n N) : HalfT n (a + 1) (a + 2) N := by
  obtain ⟨hl, f, h1, h2, h3⟩ := h
  have e : ∀ x y, x < n → y < n → x ≠ y → (donePair a n x y ↔ donePair (a + 1) (a + 2) x y) := fun x y hx hy hxy => by unfold donePair; omega
  exact ⟨hl, f, fun x y h => ⟨(h1 x y h).1, (h1 x y h).2.1, (h1 x y h).2.2.1, (e x y (h1 x y h).1 (h1 x y h).2.1 (h1 x y h).2.2.1).1 (h1 x y h).2.2.2⟩, fun x y hx hy hxy h => h2 x y hx hy hxy ((e x y hx hy hxy).2 h), h3⟩
/-- one game: u beats v, where {u, v} = {a, b} -/
theorem HalfT.game {n a b u v : Nat} {N : List Int} (h : HalfT n a b N) (hab : a < b) (hb : b < n) (huv : (u = a ∧ v = b) ∨ (u = b ∧ v = a)) {X : Nat} (hX : N.getD u 0 = (X : Int)) : HalfT n a (b + 1) (N.set u ((X + 2 ^ v : Nat) : Int)) := by
  obtain ⟨hl, f, h1, h2, h3⟩ := h
  have n1 : f u v = false := by
    rcases e : f u v with _ | _
    · rfl
    · have := (h1 u v e).2.2.2; unfold donePair at this; omega
  have n2 : f v u = false := by
    rcases e : f v u with _ | _
    · rfl
    · have := (h1 v u e).2.2.2; unfold donePair at this; omega
  refine ⟨by simp [hl], fun x y => f x y || (x == u && y == v), fun x y h => ?_, fun x y hx hy hxy hd => ?_, fun x hx => ?_⟩
  · rw [Bool.or_eq_true, Bool.and_eq_true, beq_iff_eq, beq_iff_eq] at h
    rcases h with h | ⟨rfl, rfl⟩
    · obtain ⟨p1, p2, p3, p4⟩ := h1 x y h
      exact ⟨p1, p2, p3, by unfold donePair at p4 ⊢; omega⟩
    · exact ⟨by omega, by omega, by omega, by unfold donePair; omega⟩
  · by_cases e1 : x = u ∧ y = v
    · obtain ⟨rfl, rfl⟩ := e1
      have : (y == x) = false := by simp; omega
      simp [n1, n2, this]
    · by_cases e2 : x = v ∧ y = u
      · obtain ⟨rfl, rfl⟩ := e2
        have : (x == y) = false := by simp; omega
        simp [n1, n2, this]
      · have hd' : donePair a b x y := by unfold donePair at hd ⊢; omega
        have q1 : (x == u && y == v) = false := by
          rcases q : (x == u && y == v) with _ | _
          · rfl
          · simp at q; exact absurd q e1
        have q2 : (y == u && x == v) = false := by
          rcases q : (y == u && x == v) with _ | _
          · rfl
          · simp at q; exact absurd ⟨q.2, q.1⟩ e2
        simp only [q1, q2, Bool.or_false]
        exact h2 x y hx hy hxy hd'
  · by_cases e : x = u
    · subst e
      rw [show (N.set x ((X + 2 ^ v : Nat) : Int)).getD x 0 = ((X + 2 ^ v : Nat) : Int) by simp [List.getD_eq_getElem?_getD, show x < N.length by omega]]
      have e3 : setOf (f x) n = X := by have := h3 x hx; omega
      rw [setOf_more (p := f x) (y := v) n1 (by simp) (fun z hz => by simp [hz]) (by omega), e3]
    · rw [show (N.set u ((X + 2 ^ v : Nat) : Int)).getD x 0 = N.getD x 0 by simp [List.getD_eq_getElem?_getD, List.getElem?_set_ne (Ne.symm e)], h3 x hx]
      have : setOf (fun y => f x y || (x == u && y == v)) n = setOf (f x) n := setOf_congr fun j _ => by simp [e]
      rw [this]
theorem HalfT.lt {n a b : Nat} {N : List Int} (h : HalfT n a b N) {x : Nat} (hx : x < n) : ∃ X : Nat, N.getD x 0 = (X : Int) ∧ X < 2 ^ n := by
  obtain ⟨hl, f, h1, h2, h3⟩ := h
  exact ⟨_, h3 x hx, setOf_lt _ _⟩
theorem HalfT.tour {n b : Nat} {N : List Int} (h : HalfT n n b N) (h1 : 1 ≤ n) (h8 : n ≤ 8) : tourP n N := by
  obtain ⟨hl, f, q1, q2, q3⟩ := h
  have hb : ∀ x y, x < n → bt N x y = (decide (y < n) && f x y) := fun x y hx => by
    unfold bt winsN
    rw [q3 x hx, Int.toNat_natCast, testBit_setOf]
  refine tour_of_bits (by omega) (by omega) (fun i hi => ⟨_, q3 i (by omega), by rw [hl]; exact setOf_lt _ _⟩) (fun a ha => ?_) (fun a c ha hc hac => ?_)
  · rw [hb a a (by omega)]
    rcases e : f a a with _ | _
    · simp
    · exact absurd rfl (q1 a a e).2.2.1
  · rw [hb a c (by omega), hb c a (by omega), q2 a c (by omega) (by omega) hac (by unfold donePair; omega)]
    simp [show a < n by omega, show c < n by omega]
end Go.Proofs.Ytajeledbmnndmaa

namespace Go.Proofs.Ytajeledbmnndmaa
open Go.RowKit Go.Sort
set_option maxRecDepth 100000
theorem add_shlw (X b : Nat) (hb : b ≤ 61) (h : X + 2 ^ b ≤ 1000) : IntKind.i64.wrap ((X : Int) + IntKind.i64.wrap (2 ^ b)) = ((X + 2 ^ b : Nat) : Int) := by
  rw [IntWalk.i64_left, IntWalk.i64_left, shl_nat b hb, ← Int.natCast_add]
  exact wrap64_nat _ (by omega)
set_option maxHeartbeats 8000000 in
theorem l02Of_any (n : Nat) (h1 : 1 ≤ n) (h8 : n ≤ 8) (bs : Int) (w : World) :
    Calls Try.prog 126 #[.int .i64 n, .int .i64 bs] w fun e w' => ∃ sl xs, e = .returned (.agg #[.int .i64 n, sl]) ∧ tourP n xs ∧ Own w' w.heap.size sl xs ∧ Below w.heap.size w w' := by
  obtain ⟨i0, hi, hz0, hz1, hz2⟩ := info_parts i64_info
  have HT0 := Lib.hid (BoxF.new w 0 (.slice none 0 0) 28)
  have HB0 := Lib.hid (below_alloc1 w (.cells #[.int .i64 0, .slice none 0 0] 28))
  go_enter Try.func126, Try.ntmps126
  go_wp2_with (at_make; refine wpList_make_full _ rfl _ _ 22 rfl (w.heap.size + 1) 3 i0 (.int .i64 0) 1 Try.underlying22 hi hz0 hz1 _ _ _ _ n rfl rfl rfl rfl (by rw [hz2]; omega) (by unfold maxLen; omega) (by simp) ?_; intro w1 hown hg1; have HB1 := Lib.hid (Below.grown HB0.out hg1 HB0.out.size (by simp)); have HT1 := Lib.hid (HT0.out.kept hg1 (by simp)); have HOWN := Lib.hid hown; have HS1 := Lib.hid (World.ownsRow.lt hown); clear hown hg1)
  have HO1 : Hid (Own w1 (w.heap.size + 1) (.slice (some ⟨w.heap.size + 1, 0, none⟩) n n) (List.replicate n 0)) := by
    have ho := HOWN.out
    rw [ints_made'] at ho
    unfold Hid Own
    rw [List.length_replicate]
    have e : (w.alloc (.cells #[.int .i64 0, .slice none 0 0] 28)).heap.size = w.heap.size + 1 := by simp
    rw [e] at ho
    exact ho
  have hgl1 : w.heap.size + 1 < w1.heap.size := (HO1.out.lt (w.heap.size + 1) rfl).2
  have HU1 := Lib.hid (BoxF.new w1 n (.slice (some ⟨w.heap.size + 1, 0, none⟩) n n) 28)
  have hb2 := below_alloc1 w1 (.cells #[.int .i64 n, .slice (some ⟨w.heap.size + 1, 0, none⟩) n n] 28)
  have HO2 := Lib.hid ((HO1.out.below hb2).mono (show w.heap.size ≤ w.heap.size + 1 by omega))
  have HT2 := Lib.hid (HT1.out.below hb2)
  have HB2 := Lib.hid (Below.then HB1.out hb2)
  clear HOWN HS1 HO1 HT1 HB1 hb2 HT0 HB0
  generalize w1.alloc (.cells #[.int .i64 n, .slice (some ⟨w.heap.size + 1, 0, none⟩) n n] 28) = w2 at *
  obtain ⟨gu, hgu⟩ : ∃ gu, gu = w1.heap.size := ⟨_, rfl⟩
  obtain ⟨gl, hgl⟩ : ∃ gl, gl = w.heap.size + 1 := ⟨_, rfl⟩
  rw [← hgu] at HU1 hgl1 ⊢
  rw [← hgl] at HU1 HO2 hgl1 ⊢
  have hwl : w.heap.size < gl := by omega
  clear hgu hgl
  go_loopw [1, 6] (fun x i wr => ∃ (a : Nat) (y : Int) (N : List Int), a ≤ n ∧ i = .int .i64 a ∧ x = .int .i64 y ∧ Hid (HalfT n a (a + 1) N) ∧ Hid (Own wr w.heap.size (.slice (some ⟨gl, 0, none⟩) n n) N) ∧ Hid (BoxF wr gu n (.slice (some ⟨gl, 0, none⟩) n n)) ∧ Hid (BoxF wr w.heap.size 0 (.slice none 0 0)) ∧ Hid (Below w.heap.size w wr)) (fun _ i _ => n - (intOf i).toNat)
  case atStart => exact ⟨0, bs, _, by omega, rfl, rfl, Lib.hid (HalfT.start n), HO2, HU1, HT2, HB2⟩
  case round =>
    obtain ⟨wo, rfl⟩ : ∃ x, x = wr := ⟨_, rfl⟩
    obtain ⟨a, y, N, ha, rfl, rfl, HH, HO, HU, HT, HB⟩ := hrel
    clear HO2 HU1 HT2 HB2
    by_cases hlt : a < n
    · go_wp2
      go_loopw [1, 7] (fun x j wr => ∃ (b : Nat) (z : Int) (M : List Int), a < b ∧ b ≤ n ∧ j = .int .i64 b ∧ x = .int .i64 z ∧ Hid (HalfT n a b M) ∧ Hid (Own wr w.heap.size (.slice (some ⟨gl, 0, none⟩) n n) M) ∧ Hid (BoxF wr gu n (.slice (some ⟨gl, 0, none⟩) n n)) ∧ Hid (BoxF wr w.heap.size 0 (.slice none 0 0)) ∧ Hid (Below w.heap.size w wr)) (fun _ j _ => n - (intOf j).toNat)
      case atStart => exact ⟨a + 1, y, N, by omega, by omega, by go_num, rfl, HH, HO, HU, HT, HB⟩
      case round =>
        obtain ⟨wk, rfl⟩ : ∃ x, x = wr := ⟨_, rfl⟩
        clear HH HO HU HT HB
        obtain ⟨b, z, M, hab, hb, rfl, rfl, HH, HO, HU, HT, HB⟩ := hrel
        by_cases hlt2 : b < n
        · have hand := i64_and_one z
          rcases Int.emod_two_eq z with hbit | hbit
          · rw [hbit] at hand
            obtain ⟨X, eX, hX⟩ := HH.out.lt (x := b) (by omega)
            have hb2 : a ≤ 7 := by omega
            have hp7 : 2 ^ a ≤ 128 := Nat.pow_le_pow_right (n := 2) (j := 7) (by decide) hb2
            have hp8 : 2 ^ n ≤ 256 := Nat.pow_le_pow_right (n := 2) (j := 8) (by decide) h8
            have HG := Lib.hid (HH.out.game hab hlt2 (.inr ⟨rfl, rfl⟩) eX)
            have HV := Lib.hid (add_shlw X a (by omega) (by omega))
            obtain ⟨hxc, hfz⟩ := HO.out.at1 HH.out.1 (by omega)
            have z1 := hxc b (by omega)
            rw [eX] at z1
            have f1 := hfz b
            have O2 := (HO.out.set_ HH.out.1 b ((X + 2 ^ a : Nat) : Int)).1
            have hgr : wk.grownBy (wk.setCell ⟨gl, b, none⟩ (.int .i64 ((X + 2 ^ a : Nat) : Int))).drew (some gl) := (let q := setCell_grown wk ⟨gl, b, none⟩ (.int .i64 ((X + 2 ^ a : Nat) : Int)); ⟨q.os, q.tape, q.output, q.size, q.block⟩)
            have HO2 := Lib.hid (show Own (wk.setCell ⟨gl, b, none⟩ (.int .i64 ((X + 2 ^ a : Nat) : Int))).drew w.heap.size _ _ from O2)
            have HU2 := Lib.hid (show BoxF (wk.setCell ⟨gl, b, none⟩ (.int .i64 ((X + 2 ^ a : Nat) : Int))).drew gu n _ from HU.out.kept hgr (by simp; omega))
            have HT2 := Lib.hid (show BoxF (wk.setCell ⟨gl, b, none⟩ (.int .i64 ((X + 2 ^ a : Nat) : Int))).drew w.heap.size 0 _ from HT.out.kept hgr (by simp; omega))
            have HB2 := Lib.hid (show Below w.heap.size w (wk.setCell ⟨gl, b, none⟩ (.int .i64 ((X + 2 ^ a : Nat) : Int))).drew from (HB.out.setCell (p := ⟨gl, b, none⟩) (by show w.heap.size ≤ gl; omega) _).drew)
            have y1 := HU.out.1.2
            have un : b < n := by omega
            have uni : (b : Int) < (n : Int) := by omega
            clear hxc hfz O2 hgr hp7 hp8 hX eX HH HO HU HT HB
            go_wp2_with fail
            have hv1 := HV.out
            go_region_law (fail)
            all_goals
              rw [show ((X : Int) + 2 ^ a) = ((X + 2 ^ a : Nat) : Int) by simp]
              clear z1 f1 y1 hv1
              generalize (wk.setCell ⟨gl, b, none⟩ (.int .i64 ((X + 2 ^ a : Nat) : Int))).drew = w9 at HO2 HU2 HT2 HB2 ⊢
              go_wp2
              go_roundw
              case rel => exact ⟨b + 1, _, _, by omega, by omega, by go_num, rfl, HG, HO2, HU2, HT2, HB2⟩
              case measure => simp [intOf]; omega
          · rw [hbit] at hand
            obtain ⟨X, eX, hX⟩ := HH.out.lt (x := a) (by omega)
            have hb2 : b ≤ 7 := by omega
            have hp7 : 2 ^ b ≤ 128 := Nat.pow_le_pow_right (n := 2) (j := 7) (by decide) hb2
            have hp8 : 2 ^ n ≤ 256 := Nat.pow_le_pow_right (n := 2) (j := 8) (by decide) h8
            have HG := Lib.hid (HH.out.game hab hlt2 (.inl ⟨rfl, rfl⟩) eX)
            have HV := Lib.hid (add_shlw X b (by omega) (by omega))
            obtain ⟨hxc, hfz⟩ := HO.out.at1 HH.out.1 (by omega)
            have z1 := hxc a (by omega)
            rw [eX] at z1
            have f1 := hfz a
            have O2 := (HO.out.set_ HH.out.1 a ((X + 2 ^ b : Nat) : Int)).1
            have hgr : wk.grownBy (wk.setCell ⟨gl, a, none⟩ (.int .i64 ((X + 2 ^ b : Nat) : Int))).drew (some gl) := (let q := setCell_grown wk ⟨gl, a, none⟩ (.int .i64 ((X + 2 ^ b : Nat) : Int)); ⟨q.os, q.tape, q.output, q.size, q.block⟩)
            have HO2 := Lib.hid (show Own (wk.setCell ⟨gl, a, none⟩ (.int .i64 ((X + 2 ^ b : Nat) : Int))).drew w.heap.size _ _ from O2)
            have HU2 := Lib.hid (show BoxF (wk.setCell ⟨gl, a, none⟩ (.int .i64 ((X + 2 ^ b : Nat) : Int))).drew gu n _ from HU.out.kept hgr (by simp; omega))
            have HT2 := Lib.hid (show BoxF (wk.setCell ⟨gl, a, none⟩ (.int .i64 ((X + 2 ^ b : Nat) : Int))).drew w.heap.size 0 _ from HT.out.kept hgr (by simp; omega))
            have HB2 := Lib.hid (show Below w.heap.size w (wk.setCell ⟨gl, a, none⟩ (.int .i64 ((X + 2 ^ b : Nat) : Int))).drew from (HB.out.setCell (p := ⟨gl, a, none⟩) (by show w.heap.size ≤ gl; omega) _).drew)
            have y1 := HU.out.1.2
            have un : a < n := by omega
            have uni : (a : Int) < (n : Int) := by omega
            clear hxc hfz O2 hgr hp7 hp8 hX eX HH HO HU HT HB
            go_wp2_with fail
            have hv1 := HV.out
            go_region_law (fail)
            all_goals
              rw [show ((X : Int) + 2 ^ b) = ((X + 2 ^ b : Nat) : Int) by simp]
              clear z1 f1 y1 hv1
              generalize (wk.setCell ⟨gl, a, none⟩ (.int .i64 ((X + 2 ^ b : Nat) : Int))).drew = w9 at HO2 HU2 HT2 HB2 ⊢
              go_wp2
              go_roundw
              case rel => exact ⟨b + 1, _, _, by omega, by omega, by go_num, rfl, HG, HO2, HU2, HT2, HB2⟩
              case measure => simp [intOf]; omega
        · obtain rfl : b = n := by omega
          have HR := Lib.hid HH.out.row
          go_wp2
          go_roundw
          case rel => exact ⟨a + 1, _, _, by omega, by go_num, rfl, HR, HO, HU, HT, HB⟩
          case measure => simp [intOf]; omega
    · obtain rfl : a = n := by omega
      have HTR := Lib.hid (HH.out.tour h1 h8)
      have u0 := HU.out.1.1
      have u1 := HU.out.1.2
      have t0 := HT.out.1.1
      have t1 := HT.out.1.2
      have f0 := HT.out.2 0
      have f1 := HT.out.2 1
      have HO' := Lib.hid ((HO.out.kept (setCell_grown _ ⟨w.heap.size, 0, none⟩ (.int .i64 a)) (by right; simp [Value.ownBlock]; omega)).kept (setCell_grown _ ⟨w.heap.size, 1, none⟩ (.slice (some ⟨gl, 0, none⟩) a a)) (by right; simp [Value.ownBlock]; omega))
      have HB' := Lib.hid ((HB.out.setCell (p := ⟨w.heap.size, 0, none⟩) (Nat.le_refl _) (.int .i64 a)).setCell (p := ⟨w.heap.size, 1, none⟩) (Nat.le_refl _) (.slice (some ⟨gl, 0, none⟩) a a))
      have R0 : Hid (((wo.setCell ⟨w.heap.size, 0, none⟩ (.int .i64 a)).setCell ⟨w.heap.size, 1, none⟩ (.slice (some ⟨gl, 0, none⟩) a a)).cell? ⟨w.heap.size, 0, none⟩ = some (.int .i64 a)) := (World.cell?_setCell_other _ _ _ _ (by simp)).trans (World.cell?_setCell_same _ _ _ t0)
      have R1 : Hid (((wo.setCell ⟨w.heap.size, 0, none⟩ (.int .i64 a)).setCell ⟨w.heap.size, 1, none⟩ (.slice (some ⟨gl, 0, none⟩) a a)).cell? ⟨w.heap.size, 1, none⟩ = some (.slice (some ⟨gl, 0, none⟩) a a)) := World.cell?_setCell_same _ _ _ ((World.cell?_setCell_other _ _ _ _ (by simp)).trans t1)
      go_wp2
      have r0 := R0.out
      have r1 := R1.out
      refine bodyPost_ret (v := .agg #[.int .i64 a, .slice (some ⟨gl, 0, none⟩) a a]) (by simp only [results, Try.results126]; simp [go_sem, r0, r1]) rfl ⟨_, N, rfl, HTR.out, HO'.out, HB'.out⟩
end Go.Proofs.Ytajeledbmnndmaa

namespace Go.Proofs.Ytajeledbmnndmaa
open Go.RowKit Go.Sort
set_option maxRecDepth 100000
theorem i64_and_255 (x : Int) : ∃ n : Nat, n < 256 ∧ bits .and .i64 x 255 = (n : Int) := by
  refine ⟨(BitVec.ofInt 64 x &&& BitVec.ofInt 64 255).toNat, ?_, ?_⟩
  · rw [BitVec.toNat_and, show (BitVec.ofInt 64 255).toNat = 255 from rfl, nat_mask8]
    omega
  · have h : (BitVec.ofInt 64 x &&& BitVec.ofInt 64 255).toNat < 256 := by
      rw [BitVec.toNat_and, show (BitVec.ofInt 64 255).toNat = 255 from rfl, nat_mask8]
      omega
    show IntKind.i64.wrap ((BitVec.ofInt 64 x &&& BitVec.ofInt 64 255).toNat : Int) = _
    rw [IntKind.wrap_i64]
    omega
/-- a slice of bytes in a block below lo -/
def BytesV (w : World) (lo : Nat) (v : Value) : Prop := ∃ (A : Option Addr) (n c : Nat), v = .slice A n c ∧ n ≤ c ∧ c ≤ maxLen ∧
    (0 < n → ∃ b off, A = some ⟨b, off, none⟩ ∧ b < lo ∧ ∀ k, k < n → ∃ x : Nat, x < 256 ∧ w.cell? ⟨b, off + k, none⟩ = some (.int .u8 x))
theorem BytesV.keep {w w' : World} {lo : Nat} {v : Value} (h : BytesV w lo v) (hb : ∀ p : Addr, p.block < lo → w'.cell? p = w.cell? p) : BytesV w' lo v := by
  obtain ⟨A, n, c, rfl, h1, h2, h3⟩ := h
  refine ⟨A, n, c, rfl, h1, h2, fun h0 => ?_⟩
  obtain ⟨b, off, rfl, hlt, hc⟩ := h3 h0
  refine ⟨b, off, rfl, hlt, fun k hk => ?_⟩
  obtain ⟨x, hx, e⟩ := hc k hk
  exact ⟨x, hx, by rw [hb ⟨b, off + k, none⟩ hlt]; exact e⟩
theorem BytesV.mono {w : World} {lo hi : Nat} {v : Value} (h : BytesV w lo v) (hl : lo ≤ hi) : BytesV w hi v := by
  obtain ⟨A, n, c, rfl, h1, h2, h3⟩ := h
  refine ⟨A, n, c, rfl, h1, h2, fun h0 => ?_⟩
  obtain ⟨b, off, rfl, hlt, hc⟩ := h3 h0
  exact ⟨b, off, rfl, by omega, hc⟩
/-- the cursor in its box g, over bytes below lo -/
structure CurB (lo : Nat) (w : World) (g : Nat) (v : Value) : Prop where
  cells : ∃ (i : Nat) (h : Int), w.cell? ⟨g, 0, none⟩ = some v ∧ w.cell? ⟨g, 1, none⟩ = some (.int .i64 i) ∧ w.cell? ⟨g, 2, none⟩ = some (.int .i64 h)
  frz : ∀ k, w.frozen? ⟨g, k, none⟩ = false
  bytes : BytesV w lo v
  le : lo ≤ g
theorem CurB.lt {lo : Nat} {w : World} {g : Nat} {v : Value} (h : CurB lo w g v) : g < w.heap.size := by
  obtain ⟨i, h, e, -⟩ := h.cells
  exact World.block_lt_of_cell? w _ e
theorem CurB.kept {lo : Nat} {w w' : World} {g : Nat} {v : Value} {row : Option Nat} (h : CurB lo w g v) (hg : w.grownBy w' row) (hne : ∀ k, row = some k → lo ≤ k ∧ k ≠ g) : CurB lo w' g v := by
  have hlt := h.lt
  have hb := hg.block g hlt (fun e => (hne g e.symm).2 rfl)
  obtain ⟨i, x, e0, e1, e2⟩ := h.cells
  refine ⟨⟨i, x, (World.cell?_of_block hb).trans e0, (World.cell?_of_block hb).trans e1, (World.cell?_of_block hb).trans e2⟩, fun k => (World.frozen?_of_block hb).trans (h.frz k), h.bytes.keep fun p hp => World.cell?_of_block (hg.block p.block (by have := h.le; omega) (fun e => by have := (hne _ e.symm).1; omega)), h.le⟩
theorem CurB.below {lo : Nat} {w w' : World} {g : Nat} {v : Value} (h : CurB lo w g v) (hb : Below w.heap.size w w') : CurB lo w' g v := by
  have hlt := h.lt
  obtain ⟨i, x, e0, e1, e2⟩ := h.cells
  exact ⟨⟨i, x, (hb.cell (p := ⟨g, 0, none⟩) hlt).trans e0, (hb.cell (p := ⟨g, 1, none⟩) hlt).trans e1, (hb.cell (p := ⟨g, 2, none⟩) hlt).trans e2⟩, fun k => ((bcell hb).2 _ _ hlt).trans (h.frz k), h.bytes.keep fun p hp => hb.cell (by have := h.le; omega), h.le⟩
theorem below_cur {w w' : World} {g : Nat} (hg : w.grownBy w' (some g)) {B : Nat} (hB : B ≤ g) (hs : B ≤ w.heap.size) : Below B w w' := (Below.refl B w).grown hg hs (fun k e => by injection e with e; omega)
theorem set3 {lo : Nat} {w : World} {g : Nat} {v : Value} (h : CurB lo w g v) (k : Nat) (y : Int) (hk : k = 2 ∨ (k = 1 ∧ 0 ≤ y)) : CurB lo (w.setCell ⟨g, k, none⟩ (.int .i64 y)) g v ∧ w.grownBy (w.setCell ⟨g, k, none⟩ (.int .i64 y)) (some g) := by
  obtain ⟨i, x, e0, e1, e2⟩ := h.cells
  have hgr : w.grownBy (w.setCell ⟨g, k, none⟩ (.int .i64 y)) (some g) := setCell_grown _ ⟨g, k, none⟩ _
  refine ⟨⟨?_, fun j => by have := h.frz j; simpa [go_sem] using this, h.bytes.keep fun p hp => World.cell?_of_block (hgr.block p.block (by have := h.le; have := h.lt; omega) (fun e => by injection e with e; have := h.le; omega)), h.le⟩, hgr⟩
  rcases hk with rfl | ⟨rfl, hy⟩
  · exact ⟨i, y, (World.cell?_setCell_other _ _ _ _ (by simp)).trans e0, (World.cell?_setCell_other _ _ _ _ (by simp)).trans e1, World.cell?_setCell_same _ _ _ e2⟩
  · obtain ⟨n, rfl⟩ := Int.eq_ofNat_of_zero_le hy
    exact ⟨n, x, (World.cell?_setCell_other _ _ _ _ (by simp)).trans e0, World.cell?_setCell_same _ _ _ e1, (World.cell?_setCell_other _ _ _ _ (by simp)).trans e2⟩
theorem CurB.drew {lo : Nat} {w : World} {g : Nat} {v : Value} (h : CurB lo w g v) : CurB lo w.drew g v := ⟨h.cells, h.frz, h.bytes, h.le⟩
/-- one block and what is new -/
theorem grown_belowC {w w1 w2 : World} {g : Nat} (h : w.grownBy w1 (some g)) (hb : Below w.heap.size w1 w2) : w.grownBy w2 (some g) :=
  ⟨hb.os.trans h.os, hb.tape.trans h.tape, hb.output.trans h.output, Nat.le_trans h.size hb.size, fun k hk hne => (hb.block k hk).trans (h.block k hk hne)⟩
theorem grown_newC {w w1 w2 : World} {g : Nat} {row : Option Nat} (h : w.grownBy w1 (some g)) (hg : w1.grownBy w2 row) (hr : ∀ k, row = some k → w.heap.size ≤ k) : w.grownBy w2 (some g) :=
  grown_belowC h ((Below.refl w.heap.size w1).grown hg h.size hr)
theorem grown_drew {w w1 : World} {row : Option Nat} (h : w.grownBy w1 row) : w.grownBy w1.drew row := ⟨h.os, h.tape, h.output, h.size, h.block⟩
theorem other_mod {a y C : Nat} (ha : a < C) (hy : y < C - 1) : (a + 1 + y) % C < C ∧ (a + 1 + y) % C ≠ a := by
  refine ⟨Nat.mod_lt _ (by omega), ?_⟩
  rcases Nat.lt_or_ge (a + 1 + y) C with h | h
  · rw [Nat.mod_eq_of_lt h]; omega
  · rw [Nat.mod_eq_sub_mod h, Nat.mod_eq_of_lt (by omega)]; omega
theorem other_ex {a y C : Nat} (ha : a < C) (hy : y < C - 1) : ∃ b : Nat, Int.tmod ((a : Int) + 1 + (y : Int)) (C : Int) = (b : Int) ∧ b < C ∧ b ≠ a :=
  ⟨(a + 1 + y) % C, by rw [Int.tmod_eq_emod_of_nonneg (by omega)]; simp, (other_mod ha hy).1, (other_mod ha hy).2⟩
set_option maxHeartbeats 4000000 in
theorem l01Byte_any (lo : Nat) (w : World) (g : Nat) (v : Value) (hc : CurB lo w g v) :
    Calls Try.prog 85 #[.pointer (some ⟨g, 0, none⟩)] w fun e w' => ∃ x : Nat, e = .returned (.int .i64 x) ∧ x < 256 ∧ CurB lo w' g v ∧ w.grownBy w' (some g) := by
  have hg := hc.lt
  have HC := Lib.hid hc
  obtain ⟨i, h, z0, z1, z2⟩ := hc.cells
  have f2 := hc.frz 2
  clear hc
  obtain ⟨h1, eh1⟩ : ∃ h1, IntKind.i64.wrap (h * 6364136223846793005) = h1 := ⟨_, rfl⟩
  obtain ⟨h2, eh2⟩ : ∃ h2, IntKind.i64.wrap (h1 + 1442695040888963407) = h2 := ⟨_, rfl⟩
  obtain ⟨C2, G2⟩ := set3 HC.out 2 h2 (.inl rfl)
  have HC2 := Lib.hid C2
  have HG2 := Lib.hid G2
  clear C2 G2 HC
  go_enter Try.func85, Try.ntmps85
  go_wp2_with fail
  have g0 : (w.setCell ⟨g, 2, none⟩ (.int .i64 h2)).cell? ⟨g, 0, none⟩ = some v := (World.cell?_setCell_other _ _ _ _ (by simp)).trans z0
  have g1 : (w.setCell ⟨g, 2, none⟩ (.int .i64 h2)).cell? ⟨g, 1, none⟩ = some (.int .i64 i) := (World.cell?_setCell_other _ _ _ _ (by simp)).trans z1
  have g2 : (w.setCell ⟨g, 2, none⟩ (.int .i64 h2)).cell? ⟨g, 2, none⟩ = some (.int .i64 h2) := World.cell?_setCell_same _ _ _ z2
  clear z0 z1 z2 f2 eh1 eh2
  generalize w.setCell ⟨g, 2, none⟩ (.int .i64 h2) = w1 at *
  have hg1 : g < w1.heap.size := HC2.out.lt
  obtain ⟨x, hx, ex⟩ := i64_and_255 (bits .xor .i64 (h2 / 8589934592) (h2 / 35184372088832))
  have c2 := cell_regrown g2
  refine wp_region_below (by kernel_rfl) (by kernel_rfl) ?_
  repeat (go_big_quiet_step (first | (with_reducible fail)))
  refine wpQuiet_nil ?_
  intro wq hbq0
  have g0' := (hbq0.cell (p := ⟨g, 0, none⟩) hg1).trans g0
  have g1' := (hbq0.cell (p := ⟨g, 1, none⟩) hg1).trans g1
  have HC3 := Lib.hid (HC2.out.below hbq0)
  have HG3 : Hid (w.grownBy wq (some g)) := Lib.hid ⟨hbq0.os.trans HG2.out.os, hbq0.tape.trans HG2.out.tape, hbq0.output.trans HG2.out.output, Nat.le_trans HG2.out.size hbq0.size, fun k hk hne => (hbq0.block k (Nat.lt_of_lt_of_le hk HG2.out.size)).trans (HG2.out.block k hk hne)⟩
  clear hbq0 c2 g0 g1 g2 ex HC2 HG2
  obtain ⟨A, n, cc, rfl, hnc, hcc, hbc⟩ := HC3.out.bytes
  unfold maxLen at hcc
  by_cases hlt : i < n
  · obtain ⟨b, off, rfl, hb, hbk⟩ := hbc (by omega)
    obtain ⟨y, hy, zy⟩ := hbk i hlt
    obtain ⟨z, hz, ez⟩ := i64_and_255 ((x : Int) + (y : Int))
    have ey : IntKind.i64.wrap (y : Int) = (y : Int) := IntWalk.i64_in _ (by omega)
    have exy : IntKind.i64.wrap ((x : Int) + (y : Int)) = (x : Int) + (y : Int) := IntWalk.i64_in _ (by omega)
    have ei : IntKind.i64.wrap ((i : Int) + 1) = (i : Int) + 1 := IntWalk.i64_in _ (by omega)
    have hlo := HC3.out.le
    have hgq := HC3.out.lt
    have hbq : b < wq.heap.size := by omega
    go_wp2_with fail
    have k0 := cell_regrown g0'
    have k1 := cell_regrown g1'
    refine wp_region_below (by kernel_rfl) (by kernel_rfl) ?_
    repeat (go_big_quiet_step (first | (with_reducible fail)))
    refine wpQuiet_nil ?_
    intro wr hbq1
    have h0' := (hbq1.cell (p := ⟨g, 0, none⟩) hgq).trans g0'
    have h1' := (hbq1.cell (p := ⟨g, 1, none⟩) hgq).trans g1'
    have zy' := (hbq1.cell (p := ⟨b, off + i, none⟩) hbq).trans zy
    have HC4 := Lib.hid (HC3.out.below hbq1)
    have HG4 : Hid (w.grownBy wr (some g)) := Lib.hid ⟨hbq1.os.trans HG3.out.os, hbq1.tape.trans HG3.out.tape, hbq1.output.trans HG3.out.output, Nat.le_trans HG3.out.size hbq1.size, fun k hk hne => (hbq1.block k (Nat.lt_of_lt_of_le hk HG3.out.size)).trans (HG3.out.block k hk hne)⟩
    clear hbq1 k0 k1 g0' g1' zy HC3 HG3
    have hgr := HC4.out.lt
    have hbr : b < wr.heap.size := by omega
    go_wp2_with fail
    have k0 := cell_regrown h0'
    have k1 := cell_regrown h1'
    have k2 := cell_regrown zy'
    refine wp_region_below (by kernel_rfl) (by kernel_rfl) ?_
    repeat (go_big_quiet_step (first | (with_reducible fail)))
    refine wpQuiet_nil ?_
    intro ws hbq2
    have h1' := (hbq2.cell (p := ⟨g, 1, none⟩) hgr).trans h1'
    have HC5 := Lib.hid (HC4.out.below hbq2)
    have HG5 : Hid (w.grownBy ws (some g)) := Lib.hid ⟨hbq2.os.trans HG4.out.os, hbq2.tape.trans HG4.out.tape, hbq2.output.trans HG4.out.output, Nat.le_trans HG4.out.size hbq2.size, fun k hk hne => (hbq2.block k (Nat.lt_of_lt_of_le hk HG4.out.size)).trans (HG4.out.block k hk hne)⟩
    clear hbq2 k0 k1 k2 h0' zy' HC4 HG4
    obtain ⟨C6, G6⟩ := set3 HC5.out 1 ((i : Int) + 1) (.inr ⟨rfl, by omega⟩)
    have HC6 := Lib.hid C6
    have HG6 := Lib.hid (HG5.out.trans G6)
    have f1 := HC5.out.frz 1
    clear C6 G6
    go_wp2
    go_ret
    exact ⟨z, rfl, hz, HC6.out, HG6.out⟩
  · go_wp2_with fail
    have k0 := cell_regrown g0'
    have k1 := cell_regrown g1'
    refine wp_region_below (by kernel_rfl) (by kernel_rfl) ?_
    repeat (go_big_quiet_step (first | (with_reducible fail)))
    refine wpQuiet_nil ?_
    intro wr hbq1
    have HC4 := Lib.hid (HC3.out.below hbq1)
    have HG4 : Hid (w.grownBy wr (some g)) := Lib.hid ⟨hbq1.os.trans HG3.out.os, hbq1.tape.trans HG3.out.tape, hbq1.output.trans HG3.out.output, Nat.le_trans HG3.out.size hbq1.size, fun k hk hne => (hbq1.block k (Nat.lt_of_lt_of_le hk HG3.out.size)).trans (HG3.out.block k hk hne)⟩
    clear hbq1 k0 k1 g0' g1' HC3 HG3
    go_wp2
    go_ret
    exact ⟨x, rfl, hx, HC4.out, HG4.out⟩
set_option maxHeartbeats 4000000 in
theorem l01Below_any (lo : Nat) (w : World) (g : Nat) (v : Value) (n : Nat) (hn : 1 ≤ n) (hn2 : n ≤ 256) (hc : CurB lo w g v) :
    Calls Try.prog 127 #[.pointer (some ⟨g, 0, none⟩), .int .i64 n] w fun e w' => ∃ x : Nat, e = .returned (.int .i64 x) ∧ x < n ∧ CurB lo w' g v ∧ w.grownBy w' (some g) := by
  have HC := Lib.hid hc
  clear hc
  go_enter Try.func127, Try.ntmps127
  go_wp2_with fail
  refine (l01Byte_any lo _ g v HC.out).mono ?_
  rintro e w1 ⟨x, rfl, hx, hc1, hg1⟩
  have HC1 := Lib.hid hc1
  have HG1 := Lib.hid hg1
  clear hc1 hg1
  have e0 : (x : Int) % (n : Int) = ((x % n : Nat) : Int) := by simp
  have hxn := Nat.mod_lt x (show 0 < n by omega)
  go_wp2
  go_ret
  exact ⟨x % n, ret_int (by simp), hxn, HC1.out, HG1.out⟩
theorem l01Below_lit (lo : Nat) (w : World) (g : Nat) (v : Value) (k : Int) (n : Nat) (hk : k = n) (hn : 1 ≤ n) (hn2 : n ≤ 256) (hc : CurB lo w g v) :
    Calls Try.prog 127 #[.pointer (some ⟨g, 0, none⟩), .int .i64 k] w fun e w' => ∃ x : Nat, e = .returned (.int .i64 x) ∧ x < n ∧ CurB lo w' g v ∧ w.grownBy w' (some g) := by
  subst hk
  exact l01Below_any lo w g v n hn hn2 hc
set_option maxHeartbeats 4000000 in
theorem l01New_any (w : World) (v : Value) (hv : BytesV w w.heap.size v) :
    Calls Try.prog 129 #[v] w fun e w' => ∃ g, e = .returned (.pointer (some ⟨g, 0, none⟩)) ∧ CurB w.heap.size w' g v ∧ Below w.heap.size w w' := by
  have HV := Lib.hid hv
  obtain ⟨A, n, c, rfl, hnc, hcc, hbc⟩ := hv
  unfold maxLen at hcc
  have HBC := Lib.hid hbc
  clear hbc
  go_enter Try.func129, Try.ntmps129
  go_wp2
  go_loop [3, 4] (fun h i => ∃ (x : Int) (k : Nat), k ≤ n ∧ k ≤ 4000 ∧ h = .int .i64 x ∧ i = .int .i64 k) (fun _ i => 4000 - (intOf i).toNat)
  case atStart => exact ⟨_, 0, by omega, by omega, rfl, rfl⟩
  case round =>
    obtain ⟨x, k, hk, hk4, rfl, rfl⟩ := hrel
    by_cases hlt : k < n
    · by_cases h4 : k < 4000
      · obtain ⟨b, off, rfl, hb, hbk⟩ := HBC.out (by omega)
        obtain ⟨y, hy, zy⟩ := hbk k hlt
        have ek : IntKind.i64.wrap ((k : Int) + 1) = (k : Int) + 1 := IntWalk.i64_in _ (by omega)
        clear hbk
        go_wp2
        go_round
        case rel => exact ⟨_, k + 1, by omega, by omega, rfl, by go_num⟩
        case measure => simp [intOf]; omega
      · have hd4 : decide ((k : Int) < 4000) = false := by simp; omega
        go_wp2
        go_ret
        refine ⟨_, rfl, ⟨⟨0, _, by simp, by simp, by simp; rfl⟩, fun k => by simp, HV.out.keep fun p hp => ?_, Nat.le_refl _⟩, below_alloc1 _ _⟩
        exact (below_alloc1 w _).cell hp
    · go_wp2
      go_ret
      refine ⟨_, rfl, ⟨⟨0, _, by simp, by simp, by simp; rfl⟩, fun k => by simp, HV.out.keep fun p hp => ?_, Nat.le_refl _⟩, below_alloc1 _ _⟩
      exact (below_alloc1 w _).cell hp
set_option maxHeartbeats 4000000 in
theorem l32New_any (w : World) (v : Value) (n : Nat) (hn : n ≤ 1000) (hv : BytesV w w.heap.size v) :
    Calls Try.prog 76 #[v, .int .i64 n] w fun e w' => ∃ g, e = .returned (.pointer (some ⟨g, 0, none⟩)) ∧ CurB w.heap.size w' g v ∧ Below w.heap.size w w' := by
  have HV := Lib.hid hv
  clear hv
  go_enter Try.func76, Try.ntmps76
  go_wp2_with fail
  refine (l01New_any w v HV.out).mono ?_
  rintro e w1 ⟨g, rfl, hc1, hb1⟩
  have HC1 := Lib.hid hc1
  have HB1 := Lib.hid hb1
  clear hc1 hb1
  go_wp2
  go_loopw [6] (fun i wr => ∃ k : Nat, k ≤ n ∧ i = .int .i64 k ∧ Hid (CurB w.heap.size wr g v) ∧ Hid (Below w.heap.size w wr)) (fun i _ => n - (intOf i).toNat)
  case atStart => exact ⟨0, by omega, rfl, HC1, HB1⟩
  case round =>
    obtain ⟨wo, rfl⟩ : ∃ x, x = wr := ⟨_, rfl⟩
    obtain ⟨k, hk, rfl, HC, HB⟩ := hrel
    by_cases hlt : k < n
    · have ek : IntKind.i64.wrap ((k : Int) + 1) = (k : Int) + 1 := IntWalk.i64_in _ (by omega)
      go_wp2_with fail
      refine (l01Byte_any w.heap.size _ g v HC.out).mono ?_
      rintro e w2 ⟨x, rfl, hx, hc2, hg2⟩
      have HC2 := Lib.hid hc2
      have HB2 := Lib.hid (HB.out.trans (below_cur hg2 HC.out.le HB.out.size))
      clear hc2 hg2
      go_wp2
      go_roundw
      case rel => exact ⟨k + 1, by omega, by go_num, HC2, HB2⟩
      case measure => simp [intOf]; omega
    · obtain rfl : n = k := by omega
      go_wp2
      go_ret
      exact ⟨g, rfl, HC.out, HB.out⟩
theorem l32New_lit (w : World) (v : Value) (k : Int) (n : Nat) (hk : k = n) (hn : n ≤ 1000) (hv : BytesV w w.heap.size v) :
    Calls Try.prog 76 #[v, .int .i64 k] w fun e w' => ∃ g, e = .returned (.pointer (some ⟨g, 0, none⟩)) ∧ CurB w.heap.size w' g v ∧ Below w.heap.size w w' := by
  subst hk
  exact l32New_any w v n hn hv
set_option maxHeartbeats 4000000 in
theorem makeNum_any (w : World) (v : Value) (k : Int) (n : Nat) (hk : k = n) (hn : n ≤ 1000) (hv : BytesV w w.heap.size v) :
    Calls Try.prog 28 #[v, .int .i64 k] w fun e w' => ∃ x : Nat, e = .returned (.int .i64 x) ∧ x < 65536 ∧ Below w.heap.size w w' := by
  have HV := Lib.hid hv
  have HK := Lib.hid hk
  clear hv hk
  go_enter Try.func28, Try.ntmps28
  go_wp2_with fail
  refine (l32New_lit w v k n HK.out hn HV.out).mono ?_
  rintro e w1 ⟨g, rfl, hc1, hb1⟩
  have HC1 := Lib.hid hc1
  have HB1 := Lib.hid hb1
  clear hc1 hb1
  go_wp2_with fail
  refine (l01Byte_any w.heap.size _ g v HC1.out).mono ?_
  rintro e w2 ⟨x, rfl, hx, hc2, hg2⟩
  have HC2 := Lib.hid hc2
  have HB2 := Lib.hid (HB1.out.trans (below_cur hg2 HC1.out.le HB1.out.size))
  clear hc2 hg2
  go_wp2_with fail
  refine (l01Byte_any w.heap.size _ g v HC2.out).mono ?_
  rintro e w3 ⟨y, rfl, hy, hc3, hg3⟩
  have HB3 := Lib.hid (HB2.out.trans (below_cur hg3 HC2.out.le HB2.out.size))
  clear hc3 hg3
  have e0 : IntKind.i64.wrap ((x : Int) * 256) = (x : Int) * 256 := IntWalk.i64_in _ (by omega)
  have e1 : IntKind.i64.wrap ((x : Int) * 256 + (y : Int)) = (x : Int) * 256 + (y : Int) := IntWalk.i64_in _ (by omega)
  go_wp2
  go_ret
  exact ⟨x * 256 + y, ret_int (by omega), by omega, HB3.out⟩
end Go.Proofs.Ytajeledbmnndmaa

namespace Go.Proofs.Ytajeledbmnndmaa
open Go.RowKit Go.Sort
set_option maxRecDepth 100000
set_option maxHeartbeats 8000000 in
theorem l02Draw_any (lo : Nat) (w : World) (g : Nat) (cv : Value) (most : Nat) (hm1 : 1 ≤ most) (hm8 : most ≤ 8) (hc : CurB lo w g cv) :
    Calls Try.prog 123 #[.pointer (some ⟨g, 0, none⟩), .int .i64 most] w fun e w' => ∃ (n : Nat) (sl : Value) (xs : List Int), e = .returned (.agg #[.int .i64 n, sl]) ∧ n ≤ most ∧ tourP n xs ∧ Own w' w.heap.size sl xs ∧ CurB lo w' g cv ∧ w.grownBy w' (some g) := by
  have hgw := hc.lt
  have HC0 := Lib.hid (hc.below (below_alloc1 w (.cells #[.int .i64 0, .slice none 0 0] 28)))
  have HT0 := Lib.hid (BoxF.new w 0 (.slice none 0 0) 28)
  have HG0 : Hid (w.grownBy (w.alloc (.cells #[.int .i64 0, .slice none 0 0] 28)) (some g)) := Lib.hid (grown_belowC ⟨rfl, rfl, rfl, Nat.le_refl _, fun _ _ _ => rfl⟩ (below_alloc1 _ _))
  have hrb : w.heap.size ≠ g := by omega
  clear hc
  go_enter Try.func123, Try.ntmps123
  go_wp2_with fail
  generalize w.alloc (.cells #[.int .i64 0, .slice none 0 0] 28) = w0 at *
  go_wp2_with fail
  refine (l01Below_any lo _ g cv most hm1 (by omega) HC0.out).mono ?_
  rintro e w1 ⟨x, rfl, hx, hc1, hg1⟩
  have HC1 := Lib.hid hc1
  have HT1 := Lib.hid (HT0.out.kept hg1 (by simpa using hrb))
  have HG1 := Lib.hid (HG0.out.trans hg1)
  clear hc1 hg1 HC0 HT0 HG0
  obtain ⟨n, hn⟩ : ∃ n : Nat, n = 1 + x := ⟨_, rfl⟩
  have en : (1 : Int) + (x : Int) = (n : Int) := by omega
  have hn1 : 1 ≤ n := by omega
  have hn8 : n ≤ most := by omega
  clear hn
  go_wp2_with fail
  refine (l01Below_lit lo _ g cv 256 256 rfl (by omega) (by omega) HC1.out).mono ?_
  rintro e w2 ⟨x2, rfl, hx2, hc2, hg2⟩
  have HC2 := Lib.hid hc2
  have HT2 := Lib.hid (HT1.out.kept hg2 (by simpa using hrb))
  have HG2 := Lib.hid (HG1.out.trans hg2)
  clear hc2 hg2 HC1 HT1 HG1
  go_wp2_with fail
  refine (l01Below_lit lo _ g cv 256 256 rfl (by omega) (by omega) HC2.out).mono ?_
  rintro e w3 ⟨x3, rfl, hx3, hc3, hg3⟩
  have HC3 := Lib.hid hc3
  have HT3 := Lib.hid (HT2.out.kept hg3 (by simpa using hrb))
  have HG3 := Lib.hid (HG2.out.trans hg3)
  clear hc3 hg3 HC2 HT2 HG2
  go_wp2_with fail
  refine (l01Below_lit lo _ g cv 256 256 rfl (by omega) (by omega) HC3.out).mono ?_
  rintro e w4 ⟨x4, rfl, hx4, hc4, hg4⟩
  have HC4 := Lib.hid hc4
  have HT4 := Lib.hid (HT3.out.kept hg4 (by simpa using hrb))
  have HG4 := Lib.hid (HG3.out.trans hg4)
  clear hc4 hg4 HC3 HT3 HG3
  go_wp2_with fail
  refine (l01Below_lit lo _ g cv 16 16 rfl (by omega) (by omega) HC4.out).mono ?_
  rintro e w5 ⟨x5, rfl, hx5, hc5, hg5⟩
  have HC5 := Lib.hid hc5
  have HT5 := Lib.hid (HT4.out.kept hg5 (by simpa using hrb))
  have HG5 := Lib.hid (HG4.out.trans hg5)
  clear hc5 hg5 HC4 HT4 HG4
  go_wp2_with fail
  refine (l02Of_any n hn1 (by omega) _ w5).mono ?_
  rintro e w6 ⟨sl, xs, rfl, hp, ho, hb⟩
  obtain ⟨Y, cy, rfl, -, -, -⟩ := ho.form
  have HP := Lib.hid hp
  have hs5 := HG5.out.size
  have T6 := HT5.out.below hb
  have t0 := T6.1.1
  have t1 := T6.1.2
  have f0 := T6.2 0
  have f1 := T6.2 1
  have hw5 : w.heap.size < w5.heap.size := HT5.out.gt
  have HO := Lib.hid ((ho.kept (setCell_grown _ ⟨w.heap.size, 0, none⟩ (.int .i64 n)) (own_ne (fun k hk => (ho.lt k hk).1) hw5)).kept (setCell_grown _ ⟨w.heap.size, 1, none⟩ (.slice Y xs.length cy)) (own_ne (fun k hk => (ho.lt k hk).1) hw5))
  have HC := Lib.hid (((HC5.out.below hb).kept (setCell_grown _ ⟨w.heap.size, 0, none⟩ (.int .i64 n)) (fun k hk => by simp at hk; have := HC5.out.le; exact ⟨by omega, by omega⟩)).kept (setCell_grown _ ⟨w.heap.size, 1, none⟩ (.slice Y xs.length cy)) (fun k hk => by simp at hk; have := HC5.out.le; exact ⟨by omega, by omega⟩))
  have HG := Lib.hid (grown_newC (grown_newC (grown_belowC HG5.out (Below.mono hb (Nat.le_of_lt hw5))) (setCell_grown _ ⟨w.heap.size, 0, none⟩ (.int .i64 n)) (fun k hk => by simp at hk; omega)) (setCell_grown _ ⟨w.heap.size, 1, none⟩ (.slice Y xs.length cy)) (fun k hk => by simp at hk; omega))
  have R0 : Hid (((w6.setCell ⟨w.heap.size, 0, none⟩ (.int .i64 n)).setCell ⟨w.heap.size, 1, none⟩ (.slice Y xs.length cy)).cell? ⟨w.heap.size, 0, none⟩ = some (.int .i64 n)) := (World.cell?_setCell_other _ _ _ _ (by simp)).trans (World.cell?_setCell_same _ _ _ t0)
  have R1 : Hid (((w6.setCell ⟨w.heap.size, 0, none⟩ (.int .i64 n)).setCell ⟨w.heap.size, 1, none⟩ (.slice Y xs.length cy)).cell? ⟨w.heap.size, 1, none⟩ = some (.slice Y xs.length cy)) := World.cell?_setCell_same _ _ _ ((World.cell?_setCell_other _ _ _ _ (by simp)).trans t1)
  clear ho hb T6 hp HC5 HT5 HG5
  go_wp2
  have r0 := R0.out
  have r1 := R1.out
  refine bodyPost_ret (v := .agg #[.int .i64 n, .slice Y xs.length cy]) (by simp only [results, Try.results123]; simp [go_sem, r0, r1]) rfl ⟨n, _, xs, rfl, hn8, HP.out, HO.out.mono (by omega), HC.out, HG.out⟩
theorem perm_ins {i : Nat} (k : Nat) {S : List Int} (h : PermP i S) : PermP (i + 1) (S.take k ++ [(i : Int)] ++ S.drop k) := by
  have hp : (S.take k ++ [(i : Int)] ++ S.drop k).Perm ((i : Int) :: S) := by
    have h1 : (S.take k ++ [(i : Int)] ++ S.drop k) = S.take k ++ (i : Int) :: S.drop k := by simp
    rw [h1]
    refine List.perm_middle.trans ?_
    rw [List.take_append_drop]
  refine ⟨by rw [hp.length_eq, List.length_cons, h.1], fun x hx => ?_, ?_⟩
  · rcases List.mem_cons.1 (hp.mem_iff.1 hx) with rfl | hx
    · omega
    · have := h.2.1 x hx; omega
  · rw [hp.nodup_iff, List.nodup_cons]
    exact ⟨fun hm => by have := h.2.1 _ hm; omega, h.2.2⟩
set_option maxHeartbeats 8000000 in
theorem l02Order_any (lo : Nat) (w : World) (g : Nat) (cv : Value) (n : Nat) (hn8 : n ≤ 8) (hc : CurB lo w g cv) :
    Calls Try.prog 82 #[.pointer (some ⟨g, 0, none⟩), .int .i64 n] w fun e w' => ∃ (v : Value) (ns : List Int), e = .returned v ∧ PermP n ns ∧ Own w' w.heap.size v ns ∧ CurB lo w' g cv ∧ w.grownBy w' (some g) := by
  have hgw0 := hc.lt
  have HC0 := Lib.hid (hc.below (below_alloc1 w (.cells #[] 3)))
  have HG0 : Hid (w.grownBy (w.alloc (.cells #[] 3)) (some g)) := Lib.hid (grown_belowC ⟨rfl, rfl, rfl, Nat.le_refl _, fun _ _ _ => rfl⟩ (below_alloc1 _ _))
  have HL0 := Lib.hid (Own.lit w w.heap.size [] (Nat.le_refl _) (by simp))
  clear hc
  go_enter Try.func82, Try.ntmps82
  go_wp2
  go_loopw [5, 6] (fun l t wr => ∃ (i gl d : Nat) (S : List Int), i ≤ n ∧ t = .int .i64 i ∧ l = .slice (some ⟨gl, 0, none⟩) i d ∧ i ≤ d ∧ d ≤ 9223372036854775807 ∧ S.length = i ∧ Hid (PermP i S) ∧ Hid (Own wr w.heap.size (.slice (some ⟨gl, 0, none⟩) i d) S) ∧ Hid (CurB lo wr g cv) ∧ Hid (w.grownBy wr (some g))) (fun _ t _ => n - (intOf t).toNat)
  case atStart => exact ⟨0, _, 0, [], by omega, rfl, rfl, by omega, by omega, rfl, Lib.hid ⟨rfl, fun x hx => absurd hx (by simp), List.nodup_nil⟩, HL0, HC0, HG0⟩
  case round =>
    obtain ⟨wo, rfl⟩ : ∃ x, x = wr := ⟨_, rfl⟩
    obtain ⟨i, gl, d, S, hi, rfl, rfl, hid, hd, hSl, HP, HO, HC, HG⟩ := hrel
    clear HC0 HG0 HL0
    by_cases hlt : i < n
    · have ei : IntKind.i64.wrap ((i : Int) + 1) = ((i + 1 : Nat) : Int) := by rw [IntWalk.i64_in _ (by omega)]; rfl
      go_wp2_with fail
      refine (l01Below_lit lo _ g cv ((i : Int) + 1) (i + 1) (by omega) (by omega) (by omega) HC.out).mono ?_
      rintro e wp ⟨k, rfl, hk, hc1, hg1⟩
      have HO' := Lib.hid (HO.out.kept hg1 (own_ne (fun k hk => (HO.out.lt k hk).1) hgw0))
      have HC' := Lib.hid hc1
      have HG' := Lib.hid (HG.out.trans hg1)
      clear hc1 hg1 HO HC HG
      have HO := HO'
      have HC := HC'
      have HG := HG'
      clear HO' HC' HG'
      have hki : k ≤ i := by omega
      have hqt : (S.take k).length = k := by rw [List.length_take, hSl]; omega
      have hqd : (S.drop k).length = i - k := by rw [List.length_drop, hSl]
      have HE := Lib.hid (Own.lit wp wp.heap.size [] (Nat.le_refl _) (by simp))
      have bE := below_alloc1 wp (.cells #[] 3)
      have HOC := Lib.hid (fun (k : Nat) (hk : k < i) => (HO.out.at1 hSl (by omega)).1 k hk)
      have hgw := (HO.out.lt gl rfl).2
      have HC1 : Hid (∀ j, j < (S.take k).length → (wp.alloc (.cells #[] 3)).cell? ((⟨gl, 0, none⟩ : Addr).add j) = some (.int .i64 ((S.take k).getD j 0))) := fun j hj => by
        rw [hqt] at hj
        rw [Addr.add_lit, Nat.zero_add, bE.cell (p := ⟨gl, j, none⟩) hgw, HOC.out j (by omega)]
        simp [List.getD_eq_getElem?_getD, hj]
      have HBE := Lib.hid bE
      have HLN : Hid ((S.take k ++ [(i : Int)] ++ S.drop k).length = i + 1) := Lib.hid (by rw [List.length_append, List.length_append, hqt, hqd]; simp; omega)
      clear bE ei
      by_cases hdq : d = k
      case pos =>
            go_wp2_with (first
            | (at_builtin; refine wp_appendN (wp.alloc (.cells #[] 3)) rfl (.tmp 19) (.tmp 22) rfl wp.heap.size _ [] rfl HE.out ⟨gl, 0, none⟩ d (S.take k) (by rw [hqt]; simp [Act.eval] <;> omega) HC1.out (by simp; omega) (by simp) ?_; intro v1 w1 ho1 hg1; have HO1 : Hid (Own w1 wp.heap.size v1 (S.take k)) := ho1; have HB1 := Lib.hid (Below.grown HBE.out hg1 (by simp) (fun k hk => (HE.out.lt k hk).1)); clear ho1 hg1)
            | (at_builtin; refine wp_append1 w1 rfl (.tmp 24) (.tmp 26) rfl wp.heap.size _ (S.take k) (i : Int) rfl HO1.out (by simp [Act.eval]) (by omega) HB1.out.size ?_; intro v2 w2 ho2 hg2; have HO2 := Lib.hid ho2; have HB2 := Lib.hid (below_append HB1.out hg2 HO1.out (Nat.le_refl _) HB1.out.size); clear ho2 hg2)
            | (at_builtin; refine wp_appendN w2 rfl (.tmp 28) (.tmp 31) rfl wp.heap.size _ (S.take k ++ [(i : Int)]) rfl HO2.out ⟨gl, 0, none⟩ (d - k) (S.drop k) (by rw [hqd]; simp [Act.eval] <;> omega) (fun j hj => by rw [hqd] at hj; omega) (by simp; omega) HB2.out.size ?_; intro v3 w3 ho3 hg3; obtain ⟨Y3, c3, hv3, hc3, hl3, hY3⟩ := ho3.form; rw [HLN.out] at hv3 hl3 hY3; obtain ⟨g3, rfl, hg3a, hg3b⟩ := hY3 (by omega); subst hv3; have HO3 := Lib.hid ho3; have HB3 := Lib.hid (Below.grown HB2.out hg3 HB2.out.size (fun k hk => (HO2.out.lt k hk).1)); clear ho3 hg3))
            have hln := HLN.out
            unfold maxLen at hc3
            have HPN := Lib.hid (perm_ins k HP.out)
            have HCN := Lib.hid (HC.out.below HB3.out)
            have HGN := Lib.hid (grown_belowC HG.out (Below.mono HB3.out HG.out.size))
            have HON := Lib.hid (HO3.out.mono HG.out.size)
            go_roundw
            case rel => exact ⟨i + 1, g3, c3, _, by omega, by go_num, rfl, by omega, by omega, hln, HPN, HON, HCN, HGN⟩
            case measure => simp [intOf]; omega
      case neg =>
            go_wp2_with (first
            | (at_builtin; refine wp_appendN (wp.alloc (.cells #[] 3)) rfl (.tmp 19) (.tmp 22) rfl wp.heap.size _ [] rfl HE.out ⟨gl, 0, none⟩ d (S.take k) (by rw [hqt]; simp [Act.eval] <;> omega) HC1.out (by simp; omega) (by simp) ?_; intro v1 w1 ho1 hg1; have HO1 : Hid (Own w1 wp.heap.size v1 (S.take k)) := ho1; have HB1 := Lib.hid (Below.grown HBE.out hg1 (by simp) (fun k hk => (HE.out.lt k hk).1)); clear ho1 hg1)
            | (at_builtin; refine wp_append1 w1 rfl (.tmp 24) (.tmp 26) rfl wp.heap.size _ (S.take k) (i : Int) rfl HO1.out (by simp [Act.eval]) (by omega) HB1.out.size ?_; intro v2 w2 ho2 hg2; have HO2 := Lib.hid ho2; have HB2 := Lib.hid (below_append HB1.out hg2 HO1.out (Nat.le_refl _) HB1.out.size); clear ho2 hg2)
            | (at_builtin; refine wp_appendN w2 rfl (.tmp 28) (.tmp 31) rfl wp.heap.size _ (S.take k ++ [(i : Int)]) rfl HO2.out ⟨gl, k, none⟩ (d - k) (S.drop k) (by rw [hqd]; simp [Act.eval]) (fun j hj => by rw [Addr.add_lit, HB2.out.cell (p := ⟨gl, k + j, none⟩) hgw, HOC.out (k + j) (by omega)]; simp [List.getD_eq_getElem?_getD, List.getElem?_drop]) (by simp; omega) HB2.out.size ?_; intro v3 w3 ho3 hg3; obtain ⟨Y3, c3, hv3, hc3, hl3, hY3⟩ := ho3.form; rw [HLN.out] at hv3 hl3 hY3; obtain ⟨g3, rfl, hg3a, hg3b⟩ := hY3 (by omega); subst hv3; have HO3 := Lib.hid ho3; have HB3 := Lib.hid (Below.grown HB2.out hg3 HB2.out.size (fun k hk => (HO2.out.lt k hk).1)); clear ho3 hg3))
            have hln := HLN.out
            unfold maxLen at hc3
            have HPN := Lib.hid (perm_ins k HP.out)
            have HCN := Lib.hid (HC.out.below HB3.out)
            have HGN := Lib.hid (grown_belowC HG.out (Below.mono HB3.out HG.out.size))
            have HON := Lib.hid (HO3.out.mono HG.out.size)
            go_roundw
            case rel => exact ⟨i + 1, g3, c3, _, by omega, by go_num, rfl, by omega, by omega, hln, HPN, HON, HCN, HGN⟩
            case measure => simp [intOf]; omega
    · obtain rfl : n = i := by omega
      go_wp2
      go_ret
      exact ⟨_, S, rfl, HP.out, HO.out, HC.out, HG.out⟩
end Go.Proofs.Ytajeledbmnndmaa

