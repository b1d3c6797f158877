/- Texts put together: TpN, SwC. -/
import Derived.Test.YtbkiedhaacapbaaGreatMTop37
import Derived.Test.YtbkiedhaacapbaaGreatMTop27
import Derived.Test.YtbkiedhaacapbaaGreatMTop22
import Derived.Test.YtbkiedhaacapbaaGreatMTop25
namespace Go.Proofs.YtbkiedhaacapbaaGreat
open Go.RowKit Go.Sort
set_option maxRecDepth 100000
variable {n : Nat} {xs : List Int}
theorem trans_cycles (hp : tourP n xs) (ht : transP xs n) : cyA xs n = 0 := by
  have h1 : 1 ≤ n := by have := hp.1; omega
  unfold cyA cntAt
  rw [List.countP_eq_zero]
  intro l hl h
  rw [Bool.and_eq_true] at h
  have hc := h.1
  unfold clo2 at hc
  rw [Bool.and_eq_true] at hc
  have hlen := (mem_ordL.1 hl).1
  have hlt := (mem_ordL.1 hl).2.1
  have hz := way_zero hp ht hl hc.1
  have hpw := List.pairwise_iff_getElem.1 ((zero_beats hp hl).1 hz)
  have e1 : l.headD 0 = l[0]'(by omega) := by
    rw [headD_getD, getD_nat (by omega)]
  have e2 : lastN l = l[n - 1]'(by omega) := by
    unfold lastN
    rw [getD_nat (by omega)]
    congr 1
    omega
  have h2 := hc.2
  rw [e1, e2] at h2
  rcases Nat.lt_or_ge 1 n with hn | hn
  · have h3 := hpw 0 (n - 1) (by omega) (by omega) (by omega)
    rw [(bt_asym hp (hlt _ (List.getElem_mem _)) (hlt _ (List.getElem_mem _)) h3).1] at h2
    cases h2
  · have e : n - 1 = 0 := by omega
    simp only [e] at h2
    rw [bt_irr hp] at h2
    cases h2
theorem dvd_gcdL {d : Nat} (xs : List Int) : (∀ x ∈ xs, d ∣ x.toNat) → d ∣ gcdL xs := by
  refine snocInd (p := fun xs => (∀ x ∈ xs, d ∣ x.toNat) → d ∣ gcdL xs) (fun _ => by simp [gcdL]) (fun xs y ih h => ?_) xs
  rw [gcdL_snoc]
  exact Nat.dvd_gcd (ih fun x hx => h x (by simp [hx])) (h y (by simp))
/-- lowest weights with one weight alone: it is 1 -/
theorem low_alone {U : List Int} {o : Nat} (h0 : ∀ k, k < U.length → 0 ≤ U.getD k 0) (ho : o < U.length) (hone : ∀ k, k < U.length → k ≠ o → (lowL U).getD k 0 = 0) (hpos : 0 < (lowL U).getD o 0) : (lowL U).getD o 0 = 1 := by
  have hat : ∀ k, k < U.length → (lowL U).getD k 0 = U.getD k 0 / (gcdL U : Int) := fun k hk => by
    unfold lowL
    simp [List.getD_eq_getElem?_getD, hk]
  have hdv : ∀ k, k < U.length → gcdL U ∣ (U.getD k 0).toNat := fun k hk => gcdL_dvd U _ (by rw [show U.getD k 0 = U[k] by simp [List.getD_eq_getElem?_getD, hk]]; exact List.getElem_mem hk)
  have hz : ∀ k, k < U.length → k ≠ o → U.getD k 0 = 0 := fun k hk hko => by
    have h1 := hone k hk hko
    rw [hat k hk] at h1
    obtain ⟨q, hq⟩ := hdv k hk
    have h2 := h0 k hk
    have e : U.getD k 0 = (gcdL U : Int) * (q : Int) := by
      have : ((U.getD k 0).toNat : Int) = U.getD k 0 := Int.toNat_of_nonneg h2
      rw [← this, hq]; push_cast; rfl
    rcases Nat.eq_zero_or_pos (gcdL U) with g0 | g0
    · rw [e, g0]; simp
    · rw [e, Int.mul_ediv_cancel_left _ (by omega)] at h1
      rw [e, h1]; simp
  have hd2 : (U.getD o 0).toNat ∣ gcdL U := dvd_gcdL U fun x hx => by
    obtain ⟨k, hk, e⟩ := List.mem_iff_getElem.1 hx
    have e2 : U.getD k 0 = x := by rw [← e]; simp [List.getD_eq_getElem?_getD, hk]
    by_cases hko : k = o
    · rw [← e2, hko]; exact Nat.dvd_refl _
    · have := hz k hk hko
      rw [← e2, this]; simp
  have heq : gcdL U = (U.getD o 0).toNat := Nat.dvd_antisymm (hdv o ho) hd2
  have h3 := hat o ho
  have h4 := h0 o ho
  have e : (gcdL U : Int) = U.getD o 0 := by rw [heq]; exact Int.toNat_of_nonneg h4
  rw [e] at h3
  rcases Int.lt_or_eq_of_le h4 with h5 | h5
  · rw [h3, Int.ediv_self (by omega)]
  · rw [h3, ← h5] at hpos; simp at hpos
/-- the safe strategy of a transitive tour is its first player's -/
theorem safe_one (hp : tourP n xs) (ht : transP xs n) {V : List Int} {T : Nat} (hV : SfLaw n xs V T) : V.getD ((bestO (bt xs) n).getD 0 0) 0 = 1 ∧ V.sum = 1 := by
  have hT := topT_lt hp
  have hK := topT_kings hp ht
  generalize (bestO (bt xs) n).getD 0 0 = o at *
  have hsub : ∀ k, T.testBit k = true → k = o := fun k hk => by
    have := congrArg (fun S => S.testBit k) hV.kings
    simp only [testBit_less, hk, Bool.true_and, Nat.zero_testBit] at this
    rw [hK, Nat.testBit_two_pow] at this
    have h2 : decide (o = k) = true := by simpa using this
    exact (of_decide_eq_true h2).symm
  have hz : ∀ k, k < n → k ≠ o → V.getD k 0 = 0 := fun k hk hko => by
    have hb := hV.bit k hk
    have he := hV.each k hk
    rcases q : T.testBit k with _ | _
    · rw [q] at hb
      have : ¬ 0 < V.getD k 0 := of_decide_eq_false hb.symm
      omega
    · exact absurd (hsub k q) hko
  have hpos : 0 < V.getD o 0 := by
    have hne : T ≠ 0 := fun e => by
      have := hV.odd
      rw [e, popN_zero] at this
      omega
    obtain ⟨k, hk⟩ := Nat.exists_testBit_of_ne_zero hne
    have := hsub k hk
    subst this
    have := hV.bit k hT
    rw [hk] at this
    exact of_decide_eq_true this.symm
  have hm : lowL (mixed V V 2 3) = V := by
    have := hV.mixV
    unfold mixL at this
    rwa [if_pos hV.mixB] at this
  have hlen := hV.len
  have hml : (mixed V V 2 3).length = n := by rw [mixed_length, hlen]
  have h1 : V.getD o 0 = 1 := by
    have := low_alone (U := mixed V V 2 3) (o := o) (fun k hk => by
      have hk' : k < n := by omega
      have e : (mixed V V 2 3).getD k 0 = 2 * V.getD k 0 + 3 * V.getD k 0 := by
        unfold mixed
        simp [List.getD_eq_getElem?_getD, hlen, hk']
      rw [e]
      have := (hV.each k hk').1
      omega) (by omega) (fun k hk hko => by rw [hm]; exact hz k (by omega) hko) (by rw [hm]; exact hpos)
    rwa [hm] at this
  refine ⟨h1, ?_⟩
  rw [list_sumN, hlen, sumN_one hT hz, h1]
end Go.Proofs.YtbkiedhaacapbaaGreat

namespace Go.Proofs.YtbkiedhaacapbaaGreat
open Go.RowKit Go.Sort
set_option maxRecDepth 100000
section
variable {n : Nat} {xs : List Int} {sl : Value} {w : World}
theorem cSafe {V : List Int} {T : Nat} (hV : SfLaw n xs V T) (h : Rd w sl xs) :
    Calls Tryz.prog 15 #[.agg #[.int .i64 n, sl]] w fun e w' => ∃ A c, e = .returned (.tuple #[.slice A n c, .bool true]) ∧ Own w' w.heap.size (.slice A n c) V ∧ Below w.heap.size w w' :=
  (implSafeX n sl xs w h).mono fun e w' ⟨v, h1, h2, h3⟩ => by
    rw [hV.b] at h1
    rw [hV.l] at h2
    obtain ⟨A, c, rfl, -⟩ := h2.form
    rw [hV.len] at h1 h2
    exact ⟨A, c, h1, h2, h3⟩
theorem cStratOk {U : List Int} (hU : stratB n xs U = true) {uv : Value} (h : Rd w sl xs) (h2 : Rd w uv U) :
    Calls Tryz.prog 76 #[.agg #[.int .i64 n, sl], uv] w fun e w' => e = .returned (.bool true) ∧ Below w.heap.size w w' := by
  have := implStrat n sl xs uv U w h h2
  rwa [hU] at this
theorem cIsSafe {U : List Int} {b : Bool} (hU : safeB n xs U = b) {uv : Value} (h : Rd w sl xs) (h2 : Rd w uv U) :
    Calls Tryz.prog 42 #[.agg #[.int .i64 n, sl], uv] w fun e w' => e = .returned (.bool b) ∧ Below w.heap.size w w' := by
  have := implIsSafe n sl xs uv U w h h2
  rwa [hU] at this
/-- drawn numbers from 0 to 3, the first one 1 if all are 0: weights -/
theorem drawn_strat (hp : tourP n xs) {L : List Int} (hl : L.length = n) (hb : ∀ x ∈ L, 0 ≤ x ∧ x ≤ 3) :
    (∀ k, k < n → 0 ≤ (if L.sum = 0 then L.set 0 1 else L).getD k 0 ∧ (if L.sum = 0 then L.set 0 1 else L).getD k 0 ≤ 3) ∧ (if L.sum = 0 then L.set 0 1 else L).length = n ∧ stratB n xs (if L.sum = 0 then L.set 0 1 else L) = true := by
  have hn1 : 1 ≤ n := by have := hp.1; omega
  have hb2 : ∀ x ∈ (if L.sum = 0 then L.set 0 1 else L), 0 ≤ x ∧ x ≤ 3 := by
    intro x hx
    split at hx
    · rcases List.mem_or_eq_of_mem_set hx with h | h
      · exact hb x h
      · subst h; decide
    · exact hb x hx
  have hlen : (if L.sum = 0 then L.set 0 1 else L).length = n := by split <;> simp [hl]
  refine ⟨fun k hk => ?_, hlen, stratB_true.2 ⟨hp, by omega, fun x hx => by have := hb2 x hx; omega, ?_⟩⟩
  · rw [List.getD_eq_getElem?_getD, List.getElem?_eq_getElem (by omega)]
    exact hb2 _ (List.getElem_mem _)
  · have h0 := (sum_pos (xs := if L.sum = 0 then L.set 0 1 else L) fun x hx => (hb2 x hx).1).2
    split
    · rename_i h
      rw [if_pos h] at h0
      have h1 := List.getElem_mem (l := L.set 0 1) (n := 0) (by simp; omega)
      rw [List.getElem_set_self] at h1
      exact h0.2 ⟨1, h1, by decide⟩
    · have := (sum_pos fun x hx => (hb x hx).1).1
      omega
end
end Go.Proofs.YtbkiedhaacapbaaGreat

