/- FnExactIsWay: the functions. -/
import Derived.Test.YtdmneccfbfdloaaTourOkS
import Derived.Test.YtdmneccfbfdloaaSets
import Derived.Test.YtdmneccfbfdloaaSl
namespace Go.Proofs.Ytdmneccfbfdloaa
open Go.RowKit Go.Sort

/-- the i-th of a list goes on a way -/
def wayAt (s : Int) (xs ys : List Int) (i : Nat) : Bool := inB (ys.getD i 0) 0 (s - 1) && (!(containsI (ys.take i) (ys.getD i 0)) && (i == 0 || bitI (xs.getD (ys.getD (i - 1) 0).toNat 0) (ys.getD i 0).toNat))
def wayK (s : Int) (xs ys : List Int) (k : Nat) : Bool := (List.range k).all (wayAt s xs ys)
noncomputable def wayB (s : Int) (xs ys : List Int) : Bool := tourB s xs && wayK s xs ys ys.length
theorem wayK_true {s : Int} {xs ys : List Int} {k : Nat} : wayK s xs ys k = true ↔ ∀ i, i < k → wayAt s xs ys i = true := by simp [wayK]
theorem wayK_no {s : Int} {xs ys : List Int} {k n : Nat} (hk : k < n) (h : wayAt s xs ys k = false) : wayK s xs ys n = false := by
  rcases hq : wayK s xs ys n with _ | _
  · rfl
  · have := wayK_true.1 hq k hk; rw [h] at this; cases this
theorem Rd.take_ {w : World} {A : Option Addr} {n c : Nat} {ys : List Int} (h : Rd w (.slice A n c) ys) (k : Nat) (hk : k ≤ ys.length) : Rd w (.slice A k c) (ys.take k) := by
  obtain ⟨A', c', e, hl, hm, hc⟩ := h
  injection e with e1 e2 e3
  subst e1
  subst e3
  have hl2 : (ys.take k).length = k := by rw [List.length_take]; omega
  refine ⟨A, c, by rw [hl2], by omega, hm, fun h0 => ?_⟩
  obtain ⟨g, off, hA, hg, hx⟩ := hc (by omega)
  refine ⟨g, off, hA, hg, fun j hj => ?_⟩
  rw [hx j (by omega)]
  congr 2
  simp [List.getD_eq_getElem?_getD, List.getElem?_take, show j < k by omega]
theorem wayAt_parts {s : Int} {xs ys : List Int} {i : Nat} (h : wayAt s xs ys i = true) : (0 ≤ ys.getD i 0 ∧ ys.getD i 0 ≤ s - 1) ∧ ys.getD i 0 ∉ ys.take i := by
  unfold wayAt containsI at h
  rw [Bool.and_eq_true, Bool.and_eq_true] at h
  exact ⟨inB_true.1 h.1, by simpa using h.2.1⟩
theorem way_nodup {s : Int} {xs ys : List Int} {k : Nat} (hk : k ≤ ys.length) (h : ∀ j, j < k → wayAt s xs ys j = true) : (ys.take k).Nodup ∧ ∀ y ∈ ys.take k, 0 ≤ y ∧ y ≤ s - 1 := by
  induction k with
  | zero => simp
  | succ k ih =>
    have ih := ih (by omega) (fun j hj => h j (by omega))
    have h1 := wayAt_parts (h k (by omega))
    have e : ys.getD k 0 = ys[k] := by simp [show k < ys.length by omega]
    rw [e] at h1
    rw [List.take_succ_eq_append_getElem (by omega)]
    refine ⟨List.nodup_append.2 ⟨ih.1, by simp, fun a ha b hb => ?_⟩, fun y hy => ?_⟩
    · rw [List.mem_singleton] at hb
      subst hb
      exact fun e => h1.2 (e ▸ ha)
    · rw [List.mem_append, List.mem_singleton] at hy
      rcases hy with hy | rfl
      · exact ih.2 y hy
      · exact h1.1
theorem wayB_len {s : Int} {xs ys : List Int} (h : wayB s xs ys = true) : (ys.length : Int) ≤ s := by
  unfold wayB at h
  rw [Bool.and_eq_true] at h
  have h0 := (tourB_true.1 h.1).1
  have hn := way_nodup (Nat.le_refl _) (wayK_true.1 h.2)
  rw [List.take_length] at hn
  obtain ⟨n, rfl⟩ := Int.eq_ofNat_of_zero_le (by omega : 0 ≤ s)
  have := nodup_le n ys hn.1 (fun y hy => by have := hn.2 y hy; omega)
  omega
theorem wayB_long {s : Int} {xs ys : List Int} (h : s < (ys.length : Int)) : wayB s xs ys = false := by
  rcases hq : wayB s xs ys with _ | _
  · rfl
  · have := wayB_len hq; omega
end Go.Proofs.Ytdmneccfbfdloaa
