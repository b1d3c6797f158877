/- FnExactIsConnection: the reference's walk. -/
import Derived.Test.YtoblhnfnjagajaaConn
namespace Go.Proofs.Ytoblhnfnjagajaa
open Go.RowKit

def specAt (n : Int) (xs : List Int) (j : Nat) : Prop := (1 ≤ xs.getD j 0 ∧ xs.getD j 0 ≤ n - 1) ∧ (0 < j → xs.getD (j - 1) 0 < xs.getD j 0) ∧ n - xs.getD j 0 ∉ xs.take j
theorem mem_take_getD {xs : List Int} {k : Nat} {x : Int} (hk : k ≤ xs.length) : x ∈ xs.take k ↔ ∃ j, j < k ∧ x = xs.getD j 0 := by
  rw [List.mem_iff_getElem?]
  constructor
  · rintro ⟨j, hj⟩
    rw [List.getElem?_take] at hj
    by_cases h : j < k
    · rw [if_pos h] at hj
      exact ⟨j, h, by rw [List.getD_eq_getElem?_getD, hj]; rfl⟩
    · rw [if_neg h] at hj; cases hj
  · rintro ⟨j, hj, rfl⟩
    refine ⟨j, ?_⟩
    rw [List.getElem?_take, if_pos hj, List.getD_eq_getElem?_getD, List.getElem?_eq_getElem (by omega)]
    rfl
theorem spec_mono {n : Int} {xs : List Int} {k : Nat} (h : ∀ j, j < k → specAt n xs j) : ∀ j i, i ≤ j → j < k → xs.getD i 0 ≤ xs.getD j 0 := by
  intro j
  induction j with
  | zero => intro i hi _; obtain rfl : i = 0 := by omega
            exact Int.le_refl _
  | succ j ih =>
    intro i hi hj
    by_cases e : i = j + 1
    · subst e; exact Int.le_refl _
    · have h1 := ih i (by omega) (by omega)
      have h2 := (h (j + 1) hj).2.1 (by omega)
      simp only [Nat.add_sub_cancel] at h2
      omega
theorem spec_all {n : Int} {xs : List Int} (hN : n = 1 ∨ n = 3 ∨ n = 5 ∨ n = 7) (hL : (xs.length : Int) = n / 2) (h : ∀ j, j < xs.length → specAt n xs j) : connP n xs := by
  refine ⟨hN, fun j hj => ⟨(h j hj).1, (h j hj).2.1, fun hm => ?_⟩, hL⟩
  have hm' : n - xs.getD j 0 ∈ xs.take xs.length := by rwa [List.take_length]
  obtain ⟨i, hi, e⟩ := (mem_take_getD (Nat.le_refl _)).1 hm'
  rcases Nat.lt_trichotomy i j with hij | hij | hij
  · exact (h j hj).2.2 ((mem_take_getD (by omega)).2 ⟨i, hij, e⟩)
  · subst hij; omega
  · exact (h i hi).2.2 ((mem_take_getD (by omega)).2 ⟨j, hij, by omega⟩)
theorem spec_set {n : Int} {xs : List Int} {k S l : Nat} (hl : xs.length = l) (hk : k < l) (hn7 : n ≤ 7) (hW : inB (xs[k]?.getD 0) 1 (n - 1) = true) (hlt : 0 < k → xs[k - 1]?.getD 0 < xs[k]?.getD 0)
    (hb : (bits BinOp.and IntKind.i64 ((S : Int) / 2 ^ (n - xs[k]?.getD 0).toNat) 1 == 1) = false)
    (HP : (∀ m : Nat, S.testBit m = decide ((m : Int) ∈ xs.take k)) ∧ ∀ j, j < k → specAt n xs j) (hS : S < 128) :
    ∃ S' : Nat, wrap64 ((S : Int) + wrap64 (2 ^ (xs[k]?.getD 0).toNat)) = S' ∧ S' < 128 ∧ (∀ m : Nat, S'.testBit m = decide ((m : Int) ∈ xs.take (k + 1))) ∧ ∀ j, j < k + 1 → specAt n xs j := by
  have hw := inB_true.1 hW
  obtain ⟨x, hx'⟩ : ∃ x : Nat, xs[k]?.getD 0 = x := ⟨(xs[k]?.getD 0).toNat, by omega⟩
  rw [hx'] at hw hb hlt ⊢
  have hx : xs.getD k 0 = x := by rw [List.getD_eq_getElem?_getD, hx']
  have hbit := hb
  rw [bit_test, HP.1] at hbit
  have hS2 : S < 2 ^ x := lt_of_testBit fun m hm => by
    rw [HP.1]
    simp only [decide_eq_false_iff_not]
    intro hmem
    obtain ⟨j, hj, e⟩ := (mem_take_getD (by omega)).1 hmem
    have h1 := spec_mono HP.2 (k - 1) j (by omega) (by omega)
    have h2 := hlt (by omega)
    rw [← List.getD_eq_getElem?_getD] at h2
    omega
  refine ⟨S + 2 ^ x, ?_, ?_, ?_, ?_⟩
  · exact add_shl S x (by omega) (by omega)
  · have : 2 ^ x ≤ 2 ^ 6 := Nat.pow_le_pow_right (by decide) (by omega)
    rw [show (2 : Nat) ^ 6 = 64 from rfl] at this
    omega
  · intro m
    rw [testBit_add_top S x m hS2, HP.1, List.take_succ_eq_append_getElem (by omega : k < xs.length)]
    have e : xs[k] = (x : Int) := by
      rw [← hx', List.getElem?_eq_getElem (by omega)]; rfl
    rw [e, Bool.eq_iff_iff]
    simp only [Bool.or_eq_true, decide_eq_true_eq, List.mem_append, List.mem_singleton]
    exact ⟨fun h => h.elim Or.inl (fun h => Or.inr (by omega)), fun h => h.elim Or.inl (fun h => Or.inr (by omega))⟩
  · intro j hj
    by_cases hjk : j < k
    · exact HP.2 j hjk
    · obtain rfl : j = k := by omega
      refine ⟨by rw [hx]; exact hw, fun h0 => ?_, ?_⟩
      · have := hlt h0
        rw [← List.getD_eq_getElem?_getD] at this
        rw [hx]; exact this
      · rw [hx]
        have e2 : (((n - x).toNat : Nat) : Int) = n - x := by omega
        rw [e2] at hbit
        simpa using hbit
theorem spec_no3 {n : Int} {xs : List Int} {k S l : Nat} (hl : xs.length = l) (hk : k < l) (hW : inB (xs[k]?.getD 0) 1 (n - 1) = true)
    (hb : (bits BinOp.and IntKind.i64 ((S : Int) / 2 ^ (n - xs[k]?.getD 0).toNat) 1 == 1) = true) (HP : ∀ m : Nat, S.testBit m = decide ((m : Int) ∈ xs.take k)) : connB n xs = false := by
  refine conn_no3 hl hk ?_
  have hw := inB_true.1 hW
  rw [bit_test, HP] at hb
  have e2 : (((n - xs[k]?.getD 0).toNat : Nat) : Int) = n - xs[k]?.getD 0 := by omega
  rw [e2] at hb
  simp only [decide_eq_true_eq] at hb
  simp only [containsI, decide_eq_true_eq]
  exact List.mem_of_mem_take hb

set_option maxHeartbeats 1000000 in
theorem specIsConnection (n : Int) (v : Value) (xs : List Int) (w : World) (h : Rd w v xs) :
    Calls Try.prog 99 #[.int .i64 n, v] w fun e w' => e = .returned (.bool (connB n xs)) ∧ w = w' := by
  have HR := Lib.hid h
  obtain ⟨A, c, rfl, hl1, hm1, hc1⟩ := h
  unfold maxLen at hm1
  generalize hn : xs.length = l at *
  have H1 := Lib.hid hn
  have H3 := Lib.hid hc1
  clear hn hc1
  rcases hI : inB n 1 7 with _ | _
  · go_enter Try.func99, Try.ntmps99
    go_wp2_with (first | (go_at_call 66; refine (l01In_any _ _ _ _).mono ?_; rintro e w1 ⟨rfl, rfl⟩))
    go_ret
    exact ⟨ret_bool (connB_false fun hp => inB_false.1 hI (by have := hp.1; omega)).symm, rfl⟩
  · have hI' := inB_true.1 hI
    by_cases hN : n = 1 ∨ n = 3 ∨ n = 5 ∨ n = 7
    · have hr : (n % 2 == 0) = false := by simp; omega
      by_cases hL : (l : Int) = n / 2
      · have hL' : ((l : Int) != n / 2) = false := by simp; exact hL
        have HL := Lib.hid hL
        have HN := Lib.hid hN
        have hl3 : l ≤ 3 := by omega
        clear hN hL
        go_enter Try.func99, Try.ntmps99
        go_wp2_with (first | (go_at_call 66; refine (l01In_any _ _ _ _).mono ?_; rintro e w1 ⟨rfl, rfl⟩))
        go_loop [5, 25] (fun s i => ∃ k S : Nat, k ≤ l ∧ i = .int .i64 k ∧ s = .int .i64 S ∧ S < 128 ∧ Hid ((∀ m : Nat, S.testBit m = decide ((m : Int) ∈ xs.take k)) ∧ ∀ j, j < k → specAt n xs j)) (fun _ i => l - (intOf i).toNat)
        case atStart => exact ⟨0, 0, Nat.zero_le _, rfl, rfl, by omega, by simp, fun j hj => absurd hj (by omega)⟩
        case round =>
          obtain ⟨k, S, hk, rfl, rfl, hS, HP⟩ := hrel
          by_cases hlt : k < l
          · obtain ⟨b, off, rfl, hb, hx⟩ := H3.out (by omega)
            have hxk := hx k hlt
            have HX := Lib.hid hx
            clear hx
            rcases hW : inB (xs[k]?.getD 0) 1 (n - 1) with _ | _
            · go_wp2_with (first | (go_at_call 66; refine (l01In_any _ _ _ _).mono ?_; rintro e w1 ⟨rfl, rfl⟩))
              go_ret
              exact ⟨ret_bool (conn_no1 H1.out hlt hW).symm, rfl⟩
            · have hw := inB_true.1 hW
              by_cases hk0 : k = 0
              · subst hk0
                simp only [Nat.add_zero] at hxk
                go_wp2_with (first | (go_at_call 66; refine (l01In_any _ _ _ _).mono ?_; rintro e w1 ⟨rfl, rfl⟩))
                all_goals first
                  | (go_ret
                     exact ⟨ret_bool (spec_no3 H1.out hlt hW (by assumption) HP.out.1).symm, rfl⟩)
                  | (have hb : (bits BinOp.and IntKind.i64 ((S : Int) / 2 ^ (n - xs[0]?.getD 0).toNat) 1 == 1) = false := by assumption
                     obtain ⟨S', e1, e2, e3⟩ := spec_set H1.out hlt hI'.2 hW (fun h => absurd h (by omega)) hb HP.out hS
                     go_round
                     case rel => exact ⟨1, S', by omega, by go_num, by rw [e1], e2, e3⟩
                     case measure => simp [intOf]; omega)
              · have hxp := HX.out (k - 1) (by omega)
                have hgt : decide ((0 : Int) < (k : Int)) = true := by simp; omega
                go_wp2_with (first | (go_at_call 66; refine (l01In_any _ _ _ _).mono ?_; rintro e w1 ⟨rfl, rfl⟩))
                all_goals first
                  | (go_ret
                     first
                       | exact ⟨ret_bool (spec_no3 H1.out hlt hW (by assumption) HP.out.1).symm, rfl⟩
                       | (have hor : xs[k]?.getD 0 ≤ xs[k - 1]?.getD 0 ∨ (bits BinOp.and IntKind.i64 ((S : Int) / 2 ^ (n - xs[k]?.getD 0).toNat) 1 == 1) = true := by assumption
                          refine ⟨ret_bool ?_, rfl⟩
                          rcases hor with ho | ho
                          · exact (conn_no2 H1.out hlt (by omega) ho).symm
                          · exact (spec_no3 H1.out hlt hW ho HP.out.1).symm)
                       | exact ⟨ret_bool (conn_no2 H1.out hlt (by omega) (by assumption)).symm, rfl⟩)
                  | (have hb : (bits BinOp.and IntKind.i64 ((S : Int) / 2 ^ (n - xs[k]?.getD 0).toNat) 1 == 1) = false := by first | assumption | exact And.right (by assumption)
                     have hlt' : xs[k - 1]?.getD 0 < xs[k]?.getD 0 := by assumption
                     obtain ⟨S', e1, e2, e3⟩ := spec_set H1.out hlt hI'.2 hW (fun _ => hlt') hb HP.out hS
                     go_round
                     case rel => exact ⟨k + 1, S', by omega, by go_num, by rw [e1], e2, e3⟩
                     case measure => simp [intOf]; omega)
          · obtain rfl : k = l := by omega
            go_wp2
            go_ret
            exact ⟨ret_bool (connB_true (spec_all HN.out (by rw [H1.out]; exact HL.out) (by rw [H1.out]; exact HP.out.2))).symm, rfl⟩
      · have hL' : ((l : Int) != n / 2) = true := by simp; exact hL
        have HL := Lib.hid hL
        clear hL
        go_enter Try.func99, Try.ntmps99
        go_wp2_with (first | (go_at_call 66; refine (l01In_any _ _ _ _).mono ?_; rintro e w1 ⟨rfl, rfl⟩))
        go_ret
        exact ⟨ret_bool (connB_false fun hp => HL.out (by have := hp.2.2; rwa [H1.out] at this)).symm, rfl⟩
    · have hr : (n % 2 == 0) = true := by simp; omega
      go_enter Try.func99, Try.ntmps99
      go_wp2_with (first | (go_at_call 66; refine (l01In_any _ _ _ _).mono ?_; rintro e w1 ⟨rfl, rfl⟩))
      go_ret
      exact ⟨ret_bool (connB_false fun hp => hN hp.1).symm, rfl⟩
end Go.Proofs.Ytoblhnfnjagajaa
