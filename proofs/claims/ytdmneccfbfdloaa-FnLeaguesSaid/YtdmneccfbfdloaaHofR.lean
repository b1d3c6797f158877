/- slices.IndexFunc, slices.ContainsFunc over results with a closure: by the closure's own contract. -/
import Derived.Test.YtdmneccfbfdloaaLg
import Derived.Test.YtdmneccfbfdloaaHof
namespace Go.Proofs.Ytdmneccfbfdloaa
open Go.RowKit

def findIR (p : R4 → Bool) (xs : List R4) : Int := match xs.findIdx? p with | some k => (k : Int) | none => -1

theorem findI_anyR (p : R4 → Bool) (xs : List R4) : decide (0 ≤ findIR p xs) = xs.any p := by
  unfold findIR
  rcases h : xs.findIdx? p with _ | k
  · rw [List.findIdx?_eq_none_iff] at h
    have : xs.any p = false := by simpa using h
    rw [this]; rfl
  · have hh := List.findIdx?_eq_some_iff_getElem.1 h
    obtain ⟨hl, hp, _⟩ := hh
    have : xs.any p = true := by rw [List.any_eq_true]; exact ⟨_, List.getElem_mem hl, hp⟩
    rw [this]; simp
theorem findI_missR {p : R4 → Bool} {xs : List R4} (h : ∀ x ∈ xs, p x = false) : findIR p xs = -1 := by
  unfold findIR
  have : xs.findIdx? p = none := by rw [List.findIdx?_eq_none_iff]; simpa using h
  rw [this]
theorem findI_hitR {p : R4 → Bool} {xs : List R4} {k : Nat} (hk : k < xs.length) (hp : p (r4At xs k) = true) (h : ∀ x ∈ xs.take k, p x = false) : findIR p xs = k := by
  unfold findIR
  have e : r4At xs k = xs[k] := by simp [r4At, hk]
  rw [e] at hp
  have : xs.findIdx? p = some k := by
    rw [List.findIdx?_eq_some_iff_getElem]
    refine ⟨hk, hp, fun j hj => ?_⟩
    have := h xs[j] (by
      rw [List.mem_iff_getElem?]
      exact ⟨j, by rw [List.getElem?_take, if_pos hj, List.getElem?_eq_getElem]⟩)
    simp [this]
  rw [this]
theorem findI_stepR {p : R4 → Bool} {xs : List R4} {k : Nat} (hk : k < xs.length) (hp : p (r4At xs k) = false) (h : ∀ x ∈ xs.take k, p x = false) : ∀ x ∈ xs.take (k + 1), p x = false := by
  rw [List.take_succ_eq_append_getElem hk]
  have e : r4At xs k = xs[k] := by simp [r4At, hk]
  rw [e] at hp
  intro x hx
  rw [List.mem_append, List.mem_singleton] at hx
  rcases hx with hx | rfl
  · exact h x hx
  · exact hp

set_option maxHeartbeats 1000000 in
theorem indexFunc_anyR (F : FuncId) (caps : Array Value) (hE : Enters F) (v : Value) (xs : List R4) (p : R4 → Bool) (w : World) (h : RdR w v xs)
    (hf : ∀ x ∈ xs, ∀ w', Below w.heap.size w w' → Calls Try.prog F (#[.agg #[.int .i64 x.1, .int .i64 x.2.1, .int .i64 x.2.2.1, .int .i64 x.2.2.2]] ++ caps) w' fun e w'' => e = .returned (.bool (p x)) ∧ Below w'.heap.size w' w'') :
    Calls Try.prog 70 #[v, .func (.func F) #[] caps] w fun e w' => e = .returned (.int .i64 (findIR p xs)) ∧ Below w.heap.size w w' := by
  obtain ⟨A, c, rfl, hl1, hm1, hc1⟩ := h
  unfold maxLen at hm1
  generalize hn : xs.length = n at *
  have H1 := Lib.hid hn
  have H3 := Lib.hid hc1
  have HF := Lib.hid hf
  clear hn hc1 hf
  have hE' : ∀ (args : Array Value) (W : World), (callFunc F args).run Try.prog W = .ok (.enter F args) W := hE
  go_enter Try.func70, Try.ntmps70
  go_wp2
  go_loopw [8] (fun i wr => ∃ k : Nat, k ≤ n ∧ i = .int .i64 k ∧ Below w.heap.size w wr ∧ Hid (∀ x ∈ xs.take k, p x = false)) (fun i _ => n - (intOf i).toNat)
  case atStart => exact ⟨0, Nat.zero_le _, rfl, Below.refl _ _, by simp [Hid]⟩
  case round =>
    obtain ⟨k, hk, rfl, hb, HN⟩ := hrel
    by_cases hlt : k < n
    · obtain ⟨b, off, rfl, hbb, hx⟩ := H3.out (by omega)
      obtain ⟨z0, z1, z2, z3⟩ := (hx k hlt).keep (w' := wr) (fun p hp => hb.cell (by rw [hp]; exact hbb))
      have HB := Lib.hid hb
      clear hx hb
      have hmem : r4At xs k ∈ xs := by
        have hl : k < xs.length := by rw [H1.out]; exact hlt
        rw [show r4At xs k = xs[k] by simp [r4At, hl]]; exact List.getElem_mem hl
      go_wp2_with fail
      refine (HF.out _ hmem wr HB.out).mono ?_
      rintro e w1 ⟨rfl, hb1⟩
      have hbb1 : Below w.heap.size w w1 := Below.then HB.out hb1
      have HB1 := Lib.hid hbb1
      clear hb1 hbb1 z0 z1 z2 z3 hmem
      rcases hp : p (r4At xs k) with _ | _
      · go_wp2_with fail
        go_roundw
        case rel => exact ⟨k + 1, by omega, by go_num, HB1.out, findI_stepR (by rw [H1.out]; exact hlt) hp HN.out⟩
        case measure => simp [intOf]; omega
      · go_wp2_with fail
        go_ret
        exact ⟨ret_int (findI_hitR (by rw [H1.out]; exact hlt) hp HN.out).symm, HB1.out⟩
    · obtain rfl : k = n := by omega
      go_wp2
      go_ret
      exact ⟨ret_int (findI_missR (by have := HN.out; rwa [List.take_of_length_le (by rw [H1.out]; exact Nat.le_refl _)] at this)).symm, hb⟩
set_option maxHeartbeats 1000000 in
theorem containsFunc_anyR (F : FuncId) (caps : Array Value) (hE : Enters F) (v : Value) (xs : List R4) (p : R4 → Bool) (w : World) (h : RdR w v xs)
    (hf : ∀ x ∈ xs, ∀ w', Below w.heap.size w w' → Calls Try.prog F (#[.agg #[.int .i64 x.1, .int .i64 x.2.1, .int .i64 x.2.2.1, .int .i64 x.2.2.2]] ++ caps) w' fun e w'' => e = .returned (.bool (p x)) ∧ Below w'.heap.size w' w'') :
    Calls Try.prog 49 #[v, .func (.func F) #[] caps] w fun e w' => e = .returned (.bool (xs.any p)) ∧ Below w.heap.size w w' := by
  have HF := Lib.hid hf
  clear hf
  go_enter Try.func49, Try.ntmps49
  go_wp2_with fail
  refine (indexFunc_anyR F caps hE v xs p w h HF.out).mono ?_
  rintro e w1 ⟨rfl, hb⟩
  have HB := Lib.hid hb
  clear hb
  go_wp2
  go_ret
  exact ⟨ret_bool (findI_anyR p xs), HB.out⟩
end Go.Proofs.Ytdmneccfbfdloaa
