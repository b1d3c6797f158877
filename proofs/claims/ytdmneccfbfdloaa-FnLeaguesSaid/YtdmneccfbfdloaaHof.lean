/- slices.IndexFunc, slices.ContainsFunc over ints with a closure: by the closure's own contract. -/
import Derived.Test.YtdmneccfbfdloaaSl
namespace Go.Proofs.Ytdmneccfbfdloaa
open Go.RowKit

/-- function number F with what it has captured is entered -/
def Enters (F : FuncId) : Prop := ∀ (args : Array Value) (W : World), (callFunc F args).run Try.prog W = .ok (.enter F args) W

def findI (p : Int → Bool) (xs : List Int) : Int := match xs.findIdx? p with | some k => (k : Int) | none => -1

theorem findI_any (p : Int → Bool) (xs : List Int) : decide (0 ≤ findI p xs) = xs.any p := by
  unfold findI
  rcases h : xs.findIdx? p with _ | k
  · rw [List.findIdx?_eq_none_iff] at h
    have : xs.any p = false := by simpa using h
    rw [this]; rfl
  · have hh := List.findIdx?_eq_some_iff_getElem.1 h
    obtain ⟨hl, hp, _⟩ := hh
    have : xs.any p = true := by rw [List.any_eq_true]; exact ⟨_, List.getElem_mem hl, hp⟩
    rw [this]; simp
theorem findI_miss {p : Int → Bool} {xs : List Int} (h : ∀ x ∈ xs, p x = false) : findI p xs = -1 := by
  unfold findI
  have : xs.findIdx? p = none := by rw [List.findIdx?_eq_none_iff]; simpa using h
  rw [this]
theorem findI_hit {p : Int → Bool} {xs : List Int} {k : Nat} (hk : k < xs.length) (hp : p (xs[k]?.getD 0) = true) (h : ∀ x ∈ xs.take k, p x = false) : findI p xs = k := by
  unfold findI
  have e : xs[k]?.getD 0 = xs[k] := by simp [hk]
  rw [e] at hp
  have : xs.findIdx? p = some k := by
    rw [List.findIdx?_eq_some_iff_getElem]
    refine ⟨hk, hp, fun j hj => ?_⟩
    have := h xs[j] (by
      rw [List.mem_iff_getElem?]
      exact ⟨j, by rw [List.getElem?_take, if_pos hj, List.getElem?_eq_getElem]⟩)
    simp [this]
  rw [this]
theorem findI_step {p : Int → Bool} {xs : List Int} {k : Nat} (hk : k < xs.length) (hp : p (xs[k]?.getD 0) = false) (h : ∀ x ∈ xs.take k, p x = false) : ∀ x ∈ xs.take (k + 1), p x = false := by
  rw [List.take_succ_eq_append_getElem hk]
  have e : xs[k]?.getD 0 = xs[k] := by simp [hk]
  rw [e] at hp
  intro x hx
  rw [List.mem_append, List.mem_singleton] at hx
  rcases hx with hx | rfl
  · exact h x hx
  · exact hp

set_option maxHeartbeats 1000000 in
theorem indexFunc_any (F : FuncId) (caps : Array Value) (hE : Enters F) (v : Value) (xs : List Int) (p : Int → Bool) (w : World) (h : Rd w v xs)
    (hf : ∀ x ∈ xs, ∀ w', Below w.heap.size w w' → Calls Try.prog F (#[.int .i64 x] ++ caps) w' fun e w'' => e = .returned (.bool (p x)) ∧ Below w'.heap.size w' w'') :
    Calls Try.prog 84 #[v, .func (.func F) #[] caps] w fun e w' => e = .returned (.int .i64 (findI p xs)) ∧ Below w.heap.size w w' := by
  obtain ⟨A, c, rfl, hl1, hm1, hc1⟩ := h
  unfold maxLen at hm1
  generalize hn : xs.length = n at *
  have H1 := Lib.hid hn
  have H3 := Lib.hid hc1
  have HF := Lib.hid hf
  clear hn hc1 hf
  have hE' : ∀ (args : Array Value) (W : World), (callFunc F args).run Try.prog W = .ok (.enter F args) W := hE
  go_enter Try.func84, Try.ntmps84
  go_wp2
  go_loopw [8] (fun i wr => ∃ k : Nat, k ≤ n ∧ i = .int .i64 k ∧ Below w.heap.size w wr ∧ Hid (∀ x ∈ xs.take k, p x = false)) (fun i _ => n - (intOf i).toNat)
  case atStart => exact ⟨0, Nat.zero_le _, rfl, Below.refl _ _, by simp [Hid]⟩
  case round =>
    obtain ⟨k, hk, rfl, hb, HN⟩ := hrel
    by_cases hlt : k < n
    · obtain ⟨b, off, rfl, hbb, hx⟩ := H3.out (by omega)
      have hxk : wr.cell? ⟨b, off + k, none⟩ = some (.int .i64 (xs.getD k 0)) := (hb.cell (by exact hbb)).trans (hx k hlt)
      have HB := Lib.hid hb
      clear hx hb
      have hmem : xs[k]?.getD 0 ∈ xs := by
        have hl : k < xs.length := by rw [H1.out]; exact hlt
        rw [List.getElem?_eq_getElem hl]; exact List.getElem_mem hl
      go_wp2_with fail
      refine (HF.out _ hmem wr HB.out).mono ?_
      rintro e w1 ⟨rfl, hb1⟩
      have hbb1 : Below w.heap.size w w1 := Below.then HB.out hb1
      have HB1 := Lib.hid hbb1
      clear hb1 hbb1 hxk hmem
      rcases hp : p (xs[k]?.getD 0) with _ | _
      · go_wp2_with fail
        go_roundw
        case rel => exact ⟨k + 1, by omega, by go_num, HB1.out, findI_step (by rw [H1.out]; exact hlt) hp HN.out⟩
        case measure => simp [intOf]; omega
      · go_wp2_with fail
        go_ret
        exact ⟨ret_int (findI_hit (by rw [H1.out]; exact hlt) hp HN.out).symm, HB1.out⟩
    · obtain rfl : k = n := by omega
      go_wp2
      go_ret
      exact ⟨ret_int (findI_miss (by have := HN.out; rwa [List.take_of_length_le (by rw [H1.out]; exact Nat.le_refl _)] at this)).symm, hb⟩
set_option maxHeartbeats 1000000 in
theorem containsFunc_any (F : FuncId) (caps : Array Value) (hE : Enters F) (v : Value) (xs : List Int) (p : Int → Bool) (w : World) (h : Rd w v xs)
    (hf : ∀ x ∈ xs, ∀ w', Below w.heap.size w w' → Calls Try.prog F (#[.int .i64 x] ++ caps) w' fun e w'' => e = .returned (.bool (p x)) ∧ Below w'.heap.size w' w'') :
    Calls Try.prog 80 #[v, .func (.func F) #[] caps] w fun e w' => e = .returned (.bool (xs.any p)) ∧ Below w.heap.size w w' := by
  have HF := Lib.hid hf
  clear hf
  go_enter Try.func80, Try.ntmps80
  go_wp2_with fail
  refine (indexFunc_any F caps hE v xs p w h HF.out).mono ?_
  rintro e w1 ⟨rfl, hb⟩
  have HB := Lib.hid hb
  clear hb
  go_wp2
  go_ret
  exact ⟨ret_bool (findI_any p xs), HB.out⟩
end Go.Proofs.Ytdmneccfbfdloaa
