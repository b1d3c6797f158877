/- FnExactIsConnection: the walks. -/
import Derived.Test.YtoblhnfnjagajaaLs
import Derived.Test.YtoblhnfnjagajaaSl
import Derived.Test.YtoblhnfnjagajaaFrame
import Derived.Test.YtoblhnfnjagajaaBits
import Derived.Deep.DeepCutAuto
namespace Go.Proofs.Ytoblhnfnjagajaa
open Go.RowKit

/-- what is asked of element number j -/
def connAt (n : Int) (xs : List Int) (j : Nat) : Prop := (1 ≤ xs.getD j 0 ∧ xs.getD j 0 ≤ n - 1) ∧ (0 < j → xs.getD (j - 1) 0 < xs.getD j 0) ∧ n - xs.getD j 0 ∉ xs
def connP (n : Int) (xs : List Int) : Prop := (n = 1 ∨ n = 3 ∨ n = 5 ∨ n = 7) ∧ (∀ j, j < xs.length → connAt n xs j) ∧ (xs.length : Int) = n / 2
noncomputable def connB (n : Int) (xs : List Int) : Bool := @decide (connP n xs) (Classical.propDecidable _)
theorem connB_true {n : Int} {xs : List Int} (h : connP n xs) : connB n xs = true := by unfold connB; simp [h]
theorem connB_false {n : Int} {xs : List Int} (h : ¬ connP n xs) : connB n xs = false := by unfold connB; simp [h]

theorem conn_no {n : Int} {xs : List Int} {k : Nat} (hk : k < xs.length) (h : ¬ connAt n xs k) : connB n xs = false := connB_false fun hp => h (hp.2.1 k hk)
theorem conn_no1 {n : Int} {xs : List Int} {k l : Nat} (hl : xs.length = l) (hk : k < l) (hW : inB (xs[k]?.getD 0) 1 (n - 1) = false) : connB n xs = false :=
  conn_no (k := k) (by omega) fun h => by
    have := inB_false.1 hW
    rw [← List.getD_eq_getElem?_getD] at this
    exact this h.1
theorem conn_no2 {n : Int} {xs : List Int} {k l : Nat} (hl : xs.length = l) (hk : k < l) (h0 : 0 < k) (h : xs[k]?.getD 0 ≤ xs[k - 1]?.getD 0) : connB n xs = false :=
  conn_no (k := k) (by omega) fun hh => by
    have := hh.2.1 h0
    rw [List.getD_eq_getElem?_getD, List.getD_eq_getElem?_getD] at this
    omega
theorem conn_no3 {n : Int} {xs : List Int} {k l : Nat} (hl : xs.length = l) (hk : k < l) (hC : containsI xs (n - xs[k]?.getD 0) = true) : connB n xs = false :=
  conn_no (k := k) (by omega) fun hh => by
    have := hh.2.2
    rw [List.getD_eq_getElem?_getD] at this
    simp [containsI] at hC
    exact this hC
theorem conn_yes {n : Int} {xs : List Int} {k : Nat} (hW : inB (xs[k]?.getD 0) 1 (n - 1) = true) (hC : containsI xs (n - xs[k]?.getD 0) = false) (h : 0 < k → xs[k - 1]?.getD 0 < xs[k]?.getD 0)
    (HP : ∀ j, j < k → connAt n xs j) : ∀ j, j < k + 1 → connAt n xs j := by
  intro j hj
  by_cases hjk : j < k
  · exact HP j hjk
  · obtain rfl : j = k := by omega
    refine ⟨?_, ?_, ?_⟩
    · rw [List.getD_eq_getElem?_getD]; exact inB_true.1 hW
    · rw [List.getD_eq_getElem?_getD, List.getD_eq_getElem?_getD]; exact h
    · rw [List.getD_eq_getElem?_getD]; simpa [containsI] using hC

set_option maxHeartbeats 1000000 in
theorem implIsConnection (n : Int) (v : Value) (xs : List Int) (w : World) (h : Rd w v xs) :
    Calls Try.prog 100 #[.int .i64 n, v] w fun e w' => e = .returned (.bool (connB n xs)) ∧ w = w' := by
  have HR := Lib.hid h
  obtain ⟨A, c, rfl, hl1, hm1, hc1⟩ := h
  unfold maxLen at hm1
  generalize hn : xs.length = l at *
  have H1 := Lib.hid hn
  have H3 := Lib.hid hc1
  clear hn hc1
  by_cases hN : n = 1 ∨ n = 3 ∨ n = 5 ∨ n = 7
  · have hlo : 1 ≤ n := by omega
    have hhi : n ≤ 7 := by omega
    have HN := Lib.hid hN
    clear hN
    have HB : Hid ((n != 1 && n != 3 && n != 5 && n != 7) = false) := by unfold Hid; rcases HN.out with h | h | h | h <;> subst h <;> rfl
    go_enter Try.func100, Try.ntmps100
    go_upto_region 1 with fail
    go_cut [20] (fun s20 wx => s20 = .bool false ∧ wx = w)
    case first =>
      rcases HN.out with h | h | h | h
      · have b1 : (n != 1) = false := by subst h; rfl
        clear h
        go_wp2_with fail
        go_meet
        case rel => exact ⟨rfl, rfl⟩
      · have b1 : (n != 1) = true := by subst h; rfl
        have b2 : (n != 3) = false := by subst h; rfl
        clear h
        go_wp2_with fail
        go_meet
        case rel => exact ⟨rfl, rfl⟩
      · have b1 : (n != 1) = true := by subst h; rfl
        have b2 : (n != 3) = true := by subst h; rfl
        have b3 : (n != 5) = false := by subst h; rfl
        clear h
        go_wp2_with fail
        go_meet
        case rel => exact ⟨rfl, rfl⟩
      · have b1 : (n != 1) = true := by subst h; rfl
        have b2 : (n != 3) = true := by subst h; rfl
        have b3 : (n != 5) = true := by subst h; rfl
        have b4 : (n != 7) = false := by subst h; rfl
        clear h
        go_wp2_with fail
        go_meet
        case rel => exact ⟨rfl, rfl⟩
    case rest =>
      obtain ⟨rfl, rfl⟩ := hcut
      go_wp2
      go_loop [23] (fun i => ∃ k : Nat, k ≤ l ∧ i = .int .i64 k ∧ Hid (∀ j, j < k → connAt n xs j)) (fun i => l - (intOf i).toNat)
      case atStart => exact ⟨0, Nat.zero_le _, rfl, fun j hj => absurd hj (by omega)⟩
      case round =>
        obtain ⟨k, hk, rfl, HP⟩ := hrel
        by_cases hlt : k < l
        · obtain ⟨b, off, rfl, hb, hx⟩ := H3.out (by omega)
          have hxk := hx k hlt
          have HX := Lib.hid hx
          clear hx
          rcases hW : inB (xs[k]?.getD 0) 1 (n - 1) with _ | _
          · go_wp2_with (first | (go_at_call 69; refine (within_any _ _ _ _).mono ?_; rintro e w1 ⟨rfl, rfl⟩) | (go_at_call 103; refine (contains_any _ _ _ _ HR.out).mono ?_; rintro e w1 ⟨rfl, rfl⟩))
            go_ret
            exact ⟨ret_bool (conn_no1 H1.out hlt hW).symm, rfl⟩
          · have hw := inB_true.1 hW
            rcases hC : containsI xs (n - xs[k]?.getD 0) with _ | _
            all_goals
              by_cases hk0 : k = 0
              · subst hk0
                simp only [Nat.add_zero] at hxk
                go_wp2_with (first | (go_at_call 69; refine (within_any _ _ _ _).mono ?_; rintro e w1 ⟨rfl, rfl⟩) | (go_at_call 103; refine (contains_any _ _ _ _ HR.out).mono ?_; rintro e w1 ⟨rfl, rfl⟩))
                first
                  | (go_ret; exact ⟨ret_bool (conn_no3 H1.out hlt hC).symm, rfl⟩)
                  | (go_round
                     case rel => exact ⟨1, by omega, by go_num, conn_yes hW hC (fun h => absurd h (by omega)) HP.out⟩
                     case measure => simp [intOf]; omega)
              · have hxp := HX.out (k - 1) (by omega)
                have hgt : decide ((0 : Int) < (k : Int)) = true := by simp; omega
                go_wp2_with (first | (go_at_call 69; refine (within_any _ _ _ _).mono ?_; rintro e w1 ⟨rfl, rfl⟩) | (go_at_call 103; refine (contains_any _ _ _ _ HR.out).mono ?_; rintro e w1 ⟨rfl, rfl⟩))
                all_goals first
                  | (go_ret; exact ⟨ret_bool (conn_no3 H1.out hlt hC).symm, rfl⟩)
                  | (have hle : xs[k]?.getD 0 ≤ xs[k - 1]?.getD 0 := by assumption
                     go_ret; exact ⟨ret_bool (conn_no2 H1.out hlt (by omega) hle).symm, rfl⟩)
                  | (have hlt' : xs[k - 1]?.getD 0 < xs[k]?.getD 0 := by assumption
                     go_round
                     case rel => exact ⟨k + 1, by omega, by go_num, conn_yes hW hC (fun h => hlt') HP.out⟩
                     case measure => simp [intOf]; omega)
        · obtain rfl : k = l := by omega
          go_wp2
          go_ret
          refine ⟨ret_bool ?_, rfl⟩
          have h1 := H1.out
          by_cases hf : (k : Int) = n / 2
          · rw [connB_true ⟨HN.out, by rw [h1]; exact HP.out, by rw [h1]; exact hf⟩]
            simpa using hf
          · rw [connB_false (fun hp => hf (by rw [← h1]; exact hp.2.2))]
            simpa using hf
  · have b1 : (n != 1) = true := by simp; omega
    have b2 : (n != 3) = true := by simp; omega
    have b3 : (n != 5) = true := by simp; omega
    have b4 : (n != 7) = true := by simp; omega
    have HN := Lib.hid hN
    clear hN
    go_enter Try.func100, Try.ntmps100
    go_wp2
    go_ret
    exact ⟨ret_bool (connB_false fun hp => HN.out hp.1).symm, rfl⟩
end Go.Proofs.Ytoblhnfnjagajaa
