/- Texts put together: Conn2, Rot, PtC. -/
import Derived.Test.YtbkiedhaacapbaaDoorMTours10
import Derived.Test.YtbkiedhaacapbaaDoorMTours02
import Derived.Test.YtbkiedhaacapbaaDoorMTours05
namespace Go.Proofs.YtbkiedhaacapbaaDoor
open Go.RowKit

def specAt (n : Int) (xs : List Int) (j : Nat) : Prop := (1 ≤ xs.getD j 0 ∧ xs.getD j 0 ≤ n - 1) ∧ (0 < j → xs.getD (j - 1) 0 < xs.getD j 0) ∧ n - xs.getD j 0 ∉ xs.take j
theorem mem_take_getD {xs : List Int} {k : Nat} {x : Int} (hk : k ≤ xs.length) : x ∈ xs.take k ↔ ∃ j, j < k ∧ x = xs.getD j 0 := by
  rw [List.mem_iff_getElem?]
  constructor
  · rintro ⟨j, hj⟩
    rw [List.getElem?_take] at hj
    by_cases h : j < k
    · rw [if_pos h] at hj
      exact ⟨j, h, by rw [List.getD_eq_getElem?_getD, hj]; rfl⟩
    · rw [if_neg h] at hj; cases hj
  · rintro ⟨j, hj, rfl⟩
    refine ⟨j, ?_⟩
    rw [List.getElem?_take, if_pos hj, List.getD_eq_getElem?_getD, List.getElem?_eq_getElem (by omega)]
    rfl
theorem spec_mono {n : Int} {xs : List Int} {k : Nat} (h : ∀ j, j < k → specAt n xs j) : ∀ j i, i ≤ j → j < k → xs.getD i 0 ≤ xs.getD j 0 := by
  intro j
  induction j with
  | zero => intro i hi _; obtain rfl : i = 0 := by omega
            exact Int.le_refl _
  | succ j ih =>
    intro i hi hj
    by_cases e : i = j + 1
    · subst e; exact Int.le_refl _
    · have h1 := ih i (by omega) (by omega)
      have h2 := (h (j + 1) hj).2.1 (by omega)
      simp only [Nat.add_sub_cancel] at h2
      omega
theorem spec_all {n : Int} {xs : List Int} (hN : n = 1 ∨ n = 3 ∨ n = 5 ∨ n = 7) (hL : (xs.length : Int) = n / 2) (h : ∀ j, j < xs.length → specAt n xs j) : connP n xs := by
  refine ⟨hN, fun j hj => ⟨(h j hj).1, (h j hj).2.1, fun hm => ?_⟩, hL⟩
  have hm' : n - xs.getD j 0 ∈ xs.take xs.length := by rwa [List.take_length]
  obtain ⟨i, hi, e⟩ := (mem_take_getD (Nat.le_refl _)).1 hm'
  rcases Nat.lt_trichotomy i j with hij | hij | hij
  · exact (h j hj).2.2 ((mem_take_getD (by omega)).2 ⟨i, hij, e⟩)
  · subst hij; omega
  · exact (h i hi).2.2 ((mem_take_getD (by omega)).2 ⟨j, hij, by omega⟩)
theorem spec_set {n : Int} {xs : List Int} {k S l : Nat} (hl : xs.length = l) (hk : k < l) (hn7 : n ≤ 7) (hW : inB (xs[k]?.getD 0) 1 (n - 1) = true) (hlt : 0 < k → xs[k - 1]?.getD 0 < xs[k]?.getD 0)
    (hb : (bits BinOp.and IntKind.i64 ((S : Int) / 2 ^ (n - xs[k]?.getD 0).toNat) 1 == 1) = false)
    (HP : (∀ m : Nat, S.testBit m = decide ((m : Int) ∈ xs.take k)) ∧ ∀ j, j < k → specAt n xs j) (hS : S < 128) :
    ∃ S' : Nat, wrap64 ((S : Int) + wrap64 (2 ^ (xs[k]?.getD 0).toNat)) = S' ∧ S' < 128 ∧ (∀ m : Nat, S'.testBit m = decide ((m : Int) ∈ xs.take (k + 1))) ∧ ∀ j, j < k + 1 → specAt n xs j := by
  have hw := inB_true.1 hW
  obtain ⟨x, hx'⟩ : ∃ x : Nat, xs[k]?.getD 0 = x := ⟨(xs[k]?.getD 0).toNat, by omega⟩
  rw [hx'] at hw hb hlt ⊢
  have hx : xs.getD k 0 = x := by rw [List.getD_eq_getElem?_getD, hx']
  have hbit := hb
  rw [bit_test, HP.1] at hbit
  have hS2 : S < 2 ^ x := lt_of_testBit fun m hm => by
    rw [HP.1]
    simp only [decide_eq_false_iff_not]
    intro hmem
    obtain ⟨j, hj, e⟩ := (mem_take_getD (by omega)).1 hmem
    have h1 := spec_mono HP.2 (k - 1) j (by omega) (by omega)
    have h2 := hlt (by omega)
    rw [← List.getD_eq_getElem?_getD] at h2
    omega
  refine ⟨S + 2 ^ x, ?_, ?_, ?_, ?_⟩
  · exact add_shl S x (by omega) (by omega)
  · have : 2 ^ x ≤ 2 ^ 6 := Nat.pow_le_pow_right (by decide) (by omega)
    rw [show (2 : Nat) ^ 6 = 64 from rfl] at this
    omega
  · intro m
    rw [testBit_add_top S x m hS2, HP.1, List.take_succ_eq_append_getElem (by omega : k < xs.length)]
    have e : xs[k] = (x : Int) := by
      rw [← hx', List.getElem?_eq_getElem (by omega)]; rfl
    rw [e, Bool.eq_iff_iff]
    simp only [Bool.or_eq_true, decide_eq_true_eq, List.mem_append, List.mem_singleton]
    exact ⟨fun h => h.elim Or.inl (fun h => Or.inr (by omega)), fun h => h.elim Or.inl (fun h => Or.inr (by omega))⟩
  · intro j hj
    by_cases hjk : j < k
    · exact HP.2 j hjk
    · obtain rfl : j = k := by omega
      refine ⟨by rw [hx]; exact hw, fun h0 => ?_, ?_⟩
      · have := hlt h0
        rw [← List.getD_eq_getElem?_getD] at this
        rw [hx]; exact this
      · rw [hx]
        have e2 : (((n - x).toNat : Nat) : Int) = n - x := by omega
        rw [e2] at hbit
        simpa using hbit
theorem spec_no3 {n : Int} {xs : List Int} {k S l : Nat} (hl : xs.length = l) (hk : k < l) (hW : inB (xs[k]?.getD 0) 1 (n - 1) = true)
    (hb : (bits BinOp.and IntKind.i64 ((S : Int) / 2 ^ (n - xs[k]?.getD 0).toNat) 1 == 1) = true) (HP : ∀ m : Nat, S.testBit m = decide ((m : Int) ∈ xs.take k)) : connB n xs = false := by
  refine conn_no3 hl hk ?_
  have hw := inB_true.1 hW
  rw [bit_test, HP] at hb
  have e2 : (((n - xs[k]?.getD 0).toNat : Nat) : Int) = n - xs[k]?.getD 0 := by omega
  rw [e2] at hb
  simp only [decide_eq_true_eq] at hb
  simp only [containsI, decide_eq_true_eq]
  exact List.mem_of_mem_take hb

set_option maxHeartbeats 1000000 in
theorem specIsConnection (n : Int) (v : Value) (xs : List Int) (w : World) (h : Rd w v xs) :
    Calls Tryd.prog 96 #[.int .i64 n, v] w fun e w' => e = .returned (.bool (connB n xs)) ∧ w = w' := by
  have HR := Lib.hid h
  obtain ⟨A, c, rfl, hl1, hm1, hc1⟩ := h
  unfold maxLen at hm1
  generalize hn : xs.length = l at *
  have H1 := Lib.hid hn
  have H3 := Lib.hid hc1
  clear hn hc1
  rcases hI : inB n 1 7 with _ | _
  · go_enter Tryd.func96, Tryd.ntmps96
    go_wp2_with (first | (go_at_call 104; refine (l01In_any _ _ _ _).mono ?_; rintro e w1 ⟨rfl, rfl⟩))
    go_ret
    exact ⟨ret_bool (connB_false fun hp => inB_false.1 hI (by have := hp.1; omega)).symm, rfl⟩
  · have hI' := inB_true.1 hI
    by_cases hN : n = 1 ∨ n = 3 ∨ n = 5 ∨ n = 7
    · have hr : (n % 2 == 0) = false := by simp; omega
      by_cases hL : (l : Int) = n / 2
      · have hL' : ((l : Int) != n / 2) = false := by simp; exact hL
        have HL := Lib.hid hL
        have HN := Lib.hid hN
        have hl3 : l ≤ 3 := by omega
        clear hN hL
        go_enter Tryd.func96, Tryd.ntmps96
        go_wp2_with (first | (go_at_call 104; refine (l01In_any _ _ _ _).mono ?_; rintro e w1 ⟨rfl, rfl⟩))
        go_loop [5, 25] (fun s i => ∃ k S : Nat, k ≤ l ∧ i = .int .i64 k ∧ s = .int .i64 S ∧ S < 128 ∧ Hid ((∀ m : Nat, S.testBit m = decide ((m : Int) ∈ xs.take k)) ∧ ∀ j, j < k → specAt n xs j)) (fun _ i => l - (intOf i).toNat)
        case atStart => exact ⟨0, 0, Nat.zero_le _, rfl, rfl, by omega, by simp, fun j hj => absurd hj (by omega)⟩
        case round =>
          obtain ⟨k, S, hk, rfl, rfl, hS, HP⟩ := hrel
          by_cases hlt : k < l
          · obtain ⟨b, off, rfl, hb, hx⟩ := H3.out (by omega)
            have hxk := hx k hlt
            have HX := Lib.hid hx
            clear hx
            rcases hW : inB (xs[k]?.getD 0) 1 (n - 1) with _ | _
            · go_wp2_with (first | (go_at_call 104; refine (l01In_any _ _ _ _).mono ?_; rintro e w1 ⟨rfl, rfl⟩))
              go_ret
              exact ⟨ret_bool (conn_no1 H1.out hlt hW).symm, rfl⟩
            · have hw := inB_true.1 hW
              by_cases hk0 : k = 0
              · subst hk0
                simp only [Nat.add_zero] at hxk
                go_wp2_with (first | (go_at_call 104; refine (l01In_any _ _ _ _).mono ?_; rintro e w1 ⟨rfl, rfl⟩))
                all_goals first
                  | (go_ret
                     exact ⟨ret_bool (spec_no3 H1.out hlt hW (by assumption) HP.out.1).symm, rfl⟩)
                  | (have hb : (bits BinOp.and IntKind.i64 ((S : Int) / 2 ^ (n - xs[0]?.getD 0).toNat) 1 == 1) = false := by assumption
                     obtain ⟨S', e1, e2, e3⟩ := spec_set H1.out hlt hI'.2 hW (fun h => absurd h (by omega)) hb HP.out hS
                     go_round
                     case rel => exact ⟨1, S', by omega, by go_num, by rw [e1], e2, e3⟩
                     case measure => simp [intOf]; omega)
              · have hxp := HX.out (k - 1) (by omega)
                have hgt : decide ((0 : Int) < (k : Int)) = true := by simp; omega
                go_wp2_with (first | (go_at_call 104; refine (l01In_any _ _ _ _).mono ?_; rintro e w1 ⟨rfl, rfl⟩))
                all_goals first
                  | (go_ret
                     first
                       | exact ⟨ret_bool (spec_no3 H1.out hlt hW (by assumption) HP.out.1).symm, rfl⟩
                       | (have hor : xs[k]?.getD 0 ≤ xs[k - 1]?.getD 0 ∨ (bits BinOp.and IntKind.i64 ((S : Int) / 2 ^ (n - xs[k]?.getD 0).toNat) 1 == 1) = true := by assumption
                          refine ⟨ret_bool ?_, rfl⟩
                          rcases hor with ho | ho
                          · exact (conn_no2 H1.out hlt (by omega) ho).symm
                          · exact (spec_no3 H1.out hlt hW ho HP.out.1).symm)
                       | exact ⟨ret_bool (conn_no2 H1.out hlt (by omega) (by assumption)).symm, rfl⟩)
                  | (have hb : (bits BinOp.and IntKind.i64 ((S : Int) / 2 ^ (n - xs[k]?.getD 0).toNat) 1 == 1) = false := by first | assumption | exact And.right (by assumption)
                     have hlt' : xs[k - 1]?.getD 0 < xs[k]?.getD 0 := by assumption
                     obtain ⟨S', e1, e2, e3⟩ := spec_set H1.out hlt hI'.2 hW (fun _ => hlt') hb HP.out hS
                     go_round
                     case rel => exact ⟨k + 1, S', by omega, by go_num, by rw [e1], e2, e3⟩
                     case measure => simp [intOf]; omega)
          · obtain rfl : k = l := by omega
            go_wp2
            go_ret
            exact ⟨ret_bool (connB_true (spec_all HN.out (by rw [H1.out]; exact HL.out) (by rw [H1.out]; exact HP.out.2))).symm, rfl⟩
      · have hL' : ((l : Int) != n / 2) = true := by simp; exact hL
        have HL := Lib.hid hL
        clear hL
        go_enter Tryd.func96, Tryd.ntmps96
        go_wp2_with (first | (go_at_call 104; refine (l01In_any _ _ _ _).mono ?_; rintro e w1 ⟨rfl, rfl⟩))
        go_ret
        exact ⟨ret_bool (connB_false fun hp => HL.out (by have := hp.2.2; rwa [H1.out] at this)).symm, rfl⟩
    · have hr : (n % 2 == 0) = true := by simp; omega
      go_enter Tryd.func96, Tryd.ntmps96
      go_wp2_with (first | (go_at_call 104; refine (l01In_any _ _ _ _).mono ?_; rintro e w1 ⟨rfl, rfl⟩))
      go_ret
      exact ⟨ret_bool (connB_false fun hp => hN hp.1).symm, rfl⟩
end Go.Proofs.YtbkiedhaacapbaaDoor

namespace Go.Proofs.YtbkiedhaacapbaaDoor
open Go.RowKit Go.Sort
set_option maxRecDepth 100000

def rotP (xs : List Int) (n a b : Nat) : Bool := containsI xs (((b : Int) - a + n) % n)
def rotT (xs : List Int) (n : Nat) : List Int := toL (rotP xs n) n
noncomputable def rtS (n : Int) (xs : List Int) : Int := if connB n xs = true then n else 0
noncomputable def rtL (n : Int) (xs : List Int) : List Int := if connB n xs = true then rotT xs n.toNat else []
theorem connB_iff {n : Int} {xs : List Int} : connB n xs = true ↔ connP n xs := by unfold connB; simp
theorem rtL_len (n : Int) (xs : List Int) : (rtL n xs).length ≤ 8 := by
  unfold rtL
  split
  · rename_i h
    have := (connB_iff.1 h).1
    rw [rotT, toL_len]; omega
  · simp
theorem rt_no {n : Int} {xs : List Int} (h : connB n xs = false) : rtS n xs = 0 ∧ rtL n xs = [] := by simp [rtS, rtL, h]
theorem rt_yes {n : Int} {xs : List Int} (h : connB n xs = true) : rtS n xs = n ∧ rtL n xs = rotT xs n.toNat := by simp [rtS, rtL, h]
set_option maxHeartbeats 1000000 in
theorem rot1_any (n : Nat) (xs : List Int) (v : Value) (g2 g3 a b : Nat) (W : World) (hn : n = 1 ∨ n = 3 ∨ n = 5 ∨ n = 7) (ha : a < n) (hb : b < n) (c2 : W.cell? ⟨g2, 0, none⟩ = some (.int .i64 n)) (c3 : W.cell? ⟨g3, 0, none⟩ = some v) (h : Rd W v xs) :
    Calls Tryd.prog 51 #[.int .i64 a, .int .i64 b, .pointer (some ⟨g3, 0, none⟩), .pointer (some ⟨g2, 0, none⟩)] W fun e w' => e = .returned (.bool (rotP xs n a b)) ∧ Below W.heap.size W w' := by
  have hr : Int.tmod ((b : Int) - a + n) n = ((b : Int) - a + n) % n := Int.tmod_eq_emod_of_nonneg (by omega)
  have hF : Hid (rotP xs n a b = containsI xs (((b : Int) - a + n) % n)) := rfl
  generalize ((b : Int) - a + n) % n = r at *
  have k1 := quiet_below (w := W) (fun W' hW => of_same (contains_any v xs r W' (h.below hW)))
  have d2 := cell_regrown c2
  have d3 := cell_regrown c3
  clear c2 c3 h
  go_enter Tryd.func51, Tryd.ntmps51
  go_wp2_with fail
  refine wp_region_below (by kernel_rfl) (by kernel_rfl) ?_
  repeat (go_big_quiet_step (first | (with_reducible exact k1 _ _)))
  refine wpQuiet_nil ?_
  intro wq hbq0
  have HBQ := Lib.hid hbq0
  clear hbq0 d2 d3 k1 hr
  go_wp2
  go_ret
  exact ⟨ret_bool hF.out.symm, HBQ.out⟩
set_option maxHeartbeats 1000000 in
theorem implRot (n : Int) (v : Value) (xs : List Int) (w : World) (h : Rd w v xs) :
    Calls Tryd.prog 13 #[.int .i64 n, v] w fun e w' => ∃ sl', e = .returned (.tuple #[.agg #[.int .i64 (rtS n xs), sl'], .bool (connB n xs)]) ∧ Own w' w.heap.size sl' (rtL n xs) ∧ Below w.heap.size w w' := by
  have HR := Lib.hid h
  obtain ⟨A, c, rfl, -, -, -⟩ := h
  have b3 := ((below_alloc1 w (.cells #[.int .i64 n] 3)).alloc (by simp) (.cells #[.slice A xs.length c] 23)).alloc (by simp; omega) (.cells #[.int .i64 0, .slice none 0 0] 25)
  have c0 : (((w.alloc (.cells #[.int .i64 n] 3)).alloc (.cells #[.slice A xs.length c] 23)).alloc (.cells #[.int .i64 0, .slice none 0 0] 25)).cell? ⟨w.heap.size, 0, none⟩ = some (.int .i64 n) := by
    rw [World.cell?_alloc_lt _ _ _ (by simp; omega), World.cell?_alloc_lt _ _ _ (by simp)]; simp
  have c1 : (((w.alloc (.cells #[.int .i64 n] 3)).alloc (.cells #[.slice A xs.length c] 23)).alloc (.cells #[.int .i64 0, .slice none 0 0] 25)).cell? ⟨w.heap.size + 1, 0, none⟩ = some (.slice A xs.length c) := by
    rw [World.cell?_alloc_lt _ _ _ (by simp)]
    simp
  have t0 := BoxF.new ((w.alloc (.cells #[.int .i64 n] 3)).alloc (.cells #[.slice A xs.length c] 23)) 0 (.slice none 0 0) 25
  simp only [World.size_alloc] at t0
  have HB0 := Lib.hid b3
  have HT0 := Lib.hid t0
  have C0 := Lib.hid c0
  have C1 := Lib.hid c1
  clear b3 t0 c0 c1
  rcases q0 : connB n xs with _ | _
  · rw [(rt_no q0).1, (rt_no q0).2]
    go_enter Tryd.func13, Tryd.ntmps13
    go_wp2_with fail
    generalize (((w.alloc (.cells #[.int .i64 n] 3)).alloc (.cells #[.slice A xs.length c] 23)).alloc (.cells #[.int .i64 0, .slice none 0 0] 25)) = w0 at *
    refine (implIsConnection n _ xs _ (HR.out.below HB0.out)).mono ?_
    rintro e wz ⟨rfl, rfl⟩
    rw [q0]
    have v0 := HT0.out.1.1
    have v1 := HT0.out.1.2
    have f0 := HT0.out.2 0
    have f1 := HT0.out.2 1
    have HBx := Lib.hid ((HB0.out.setCell (p := ⟨w.heap.size + 1 + 1, 0, none⟩) (show w.heap.size ≤ w.heap.size + 1 + 1 by omega) (.int .i64 0)).setCell (p := ⟨w.heap.size + 1 + 1, 1, none⟩) (show w.heap.size ≤ w.heap.size + 1 + 1 by omega) (.slice none 0 0))
    have R0 : Hid (((w0.setCell ⟨w.heap.size + 1 + 1, 0, none⟩ (.int .i64 0)).setCell ⟨w.heap.size + 1 + 1, 1, none⟩ (.slice none 0 0)).cell? ⟨w.heap.size + 1 + 1, 0, none⟩ = some (.int .i64 0)) := (World.cell?_setCell_other _ _ _ _ (by simp)).trans (World.cell?_setCell_same _ _ _ v0)
    have R1 : Hid (((w0.setCell ⟨w.heap.size + 1 + 1, 0, none⟩ (.int .i64 0)).setCell ⟨w.heap.size + 1 + 1, 1, none⟩ (.slice none 0 0)).cell? ⟨w.heap.size + 1 + 1, 1, none⟩ = some (.slice none 0 0)) := World.cell?_setCell_same _ _ _ ((World.cell?_setCell_other _ _ _ _ (by simp)).trans v1)
    go_wp2
    have r0 := R0.out
    have r1 := R1.out
    refine bodyPost_ret (v := .tuple #[.agg #[.int .i64 0, .slice none 0 0], .bool false]) (by simp only [results, Tryd.results13]; simp [go_sem, r0, r1]) rfl ⟨_, rfl, Own.nil_ _ _, HBx.out⟩
  · have hp := connB_iff.1 q0
    obtain ⟨m, rfl⟩ := Int.eq_ofNat_of_zero_le (show 0 ≤ n by have := hp.1; omega)
    have hm : m = 1 ∨ m = 3 ∨ m = 5 ∨ m = 7 := by have := hp.1; omega
    rw [(rt_yes q0).1, (rt_yes q0).2, show ((m : Int)).toNat = m from rfl]
    have hE : Enters 51 := fun args W => by kernel_rfl
    go_enter Tryd.func13, Tryd.ntmps13
    go_wp2_with fail
    generalize (((w.alloc (.cells #[.int .i64 m] 3)).alloc (.cells #[.slice A xs.length c] 23)).alloc (.cells #[.int .i64 0, .slice none 0 0] 25)) = w0 at *
    refine (implIsConnection m _ xs _ (HR.out.below HB0.out)).mono ?_
    rintro e wz ⟨rfl, rfl⟩
    rw [q0]
    have c0 := C0.out
    have c1 := C1.out
    go_wp2_with fail
    refine (tourOf_any m (by omega) (by omega) 51 #[.pointer (some ⟨w.heap.size + 1, 0, none⟩), .pointer (some ⟨w.heap.size, 0, none⟩)] hE (rotP xs m) _ (fun a b ha hb W hW => rot1_any m xs (.slice A xs.length c) w.heap.size (w.heap.size + 1) a b W hm ha hb ((hW.cell (World.block_lt_of_cell? _ _ C0.out)).trans C0.out) ((hW.cell (World.block_lt_of_cell? _ _ C1.out)).trans C1.out) (HR.out.below (Below.then HB0.out hW)))).mono ?_
    rintro e w1 ⟨sl', rfl, ho, hb1⟩
    obtain ⟨Y, cy, rfl, -, -, -⟩ := ho.form
    have hT1 := HT0.out.below hb1
    have hgt := HT0.out.gt
    have HB1 := Lib.hid (Below.then HB0.out hb1)
    have v0 := hT1.1.1
    have v1 := hT1.1.2
    have f0 := hT1.2 0
    have f1 := hT1.2 1
    have hF : Hid (rotT xs m = toL (rotP xs m) m) := rfl
    rw [← hF.out] at ho ⊢
    generalize hL : rotT xs m = L at *
    have HOx := Lib.hid ((ho.kept (setCell_grown _ ⟨w.heap.size + 1 + 1, 0, none⟩ (.int .i64 m)) (own_ne (fun k hk => (ho.lt k hk).1) hgt)).kept (setCell_grown _ ⟨w.heap.size + 1 + 1, 1, none⟩ (.slice Y L.length cy)) (own_ne (fun k hk => (ho.lt k hk).1) hgt))
    have HBx := Lib.hid ((HB1.out.setCell (p := ⟨w.heap.size + 1 + 1, 0, none⟩) (show w.heap.size ≤ w.heap.size + 1 + 1 by omega) (.int .i64 m)).setCell (p := ⟨w.heap.size + 1 + 1, 1, none⟩) (show w.heap.size ≤ w.heap.size + 1 + 1 by omega) (.slice Y L.length cy))
    have R0 : Hid (((w1.setCell ⟨w.heap.size + 1 + 1, 0, none⟩ (.int .i64 m)).setCell ⟨w.heap.size + 1 + 1, 1, none⟩ (.slice Y L.length cy)).cell? ⟨w.heap.size + 1 + 1, 0, none⟩ = some (.int .i64 m)) := (World.cell?_setCell_other _ _ _ _ (by simp)).trans (World.cell?_setCell_same _ _ _ v0)
    have R1 : Hid (((w1.setCell ⟨w.heap.size + 1 + 1, 0, none⟩ (.int .i64 m)).setCell ⟨w.heap.size + 1 + 1, 1, none⟩ (.slice Y L.length cy)).cell? ⟨w.heap.size + 1 + 1, 1, none⟩ = some (.slice Y L.length cy)) := World.cell?_setCell_same _ _ _ ((World.cell?_setCell_other _ _ _ _ (by simp)).trans v1)
    clear ho hT1 hb1 hp
    go_wp2
    have r0 := R0.out
    have r1 := R1.out
    refine bodyPost_ret (v := .tuple #[.agg #[.int .i64 m, .slice Y L.length cy], .bool true]) (by simp only [results, Tryd.results13]; simp [go_sem, r0, r1]) rfl ⟨_, rfl, by rw [hL]; exact HOx.out.mono (show w.heap.size ≤ w0.heap.size by omega), HBx.out⟩
end Go.Proofs.YtbkiedhaacapbaaDoor

namespace Go.Proofs.YtbkiedhaacapbaaDoor
open Go.RowKit Go.Sort
set_option maxRecDepth 100000
set_option maxHeartbeats 1000000 in
theorem pt1_any (n : Nat) (sl : Value) (xs : List Int) (hp : tourP n xs) (L : List Nat) (m : Nat) (hm : L.length = m) (lsl : Value) (a b gt gl : Nat) (W : World) (hr : Rd W sl xs) (ht : TBox W gt n sl) (hlb : W.cell? ⟨gl, 0, none⟩ = some lsl)
    (hl : Rd W lsl (nI L)) (hL : ∀ x ∈ L, x < n) (ha : a < m) (hb : b < m) :
    Calls Tryd.prog 66 #[.int .i64 a, .int .i64 b, .pointer (some ⟨gt, 0, none⟩), .pointer (some ⟨gl, 0, none⟩)] W fun e w' => e = .returned (.bool (bt xs (L.getD a 0) (L.getD b 0))) ∧ Below W.heap.size W w' := by
  have hA : L.getD a 0 < n := hL _ (by rw [getD_nat (by omega)]; exact List.getElem_mem _)
  have hB : L.getD b 0 < n := hL _ (by rw [getD_nat (by omega)]; exact List.getElem_mem _)
  have hA0 : (0 : Int) ≤ ((L.getD a 0 : Nat) : Int) := by omega
  have hB0 : (0 : Int) ≤ ((L.getD b 0 : Nat) : Int) := by omega
  have hA1 : ((L.getD a 0 : Nat) : Int) < xs.length := by rw [tour_len hp]; omega
  have hB1 : ((L.getD b 0 : Nat) : Int) ≤ 63 := by have := hp.1; omega
  have k1 := quiet_below (w := W) (fun W' hW => beats_any n sl xs (L.getD a 0 : Nat) (L.getD b 0 : Nat) W' (hr.below hW) hA0 hA1 hB0 hB1)
  clear hA0 hB0 hA1 hB1
  rw [Int.toNat_natCast, Int.toNat_natCast, bitI_bt (tour_wins hp (by rw [tour_len hp]; exact hA)).1] at k1
  obtain ⟨A, c, rfl, h1, h2, h3⟩ := hl
  rw [nI_len, hm] at hlb h1 h3
  obtain ⟨g, off, rfl, hg, hx⟩ := h3 (by omega)
  have za := hx a ha
  have zb := hx b hb
  rw [nI_getD (by omega)] at za zb
  generalize L.getD a 0 = x at *
  generalize L.getD b 0 = y at *
  have d1 := cell_regrown ht.1
  have d2 := cell_regrown ht.2
  have d3 := cell_regrown hlb
  have d4 := cell_regrown za
  have d5 := cell_regrown zb
  clear hr ht hp hx hL hlb za zb
  go_enter Tryd.func66, Tryd.ntmps66
  go_wp2_with fail
  refine wp_region_below (by kernel_rfl) (by kernel_rfl) ?_
  repeat (go_big_quiet_step (first | (with_reducible exact k1 _ _)))
  refine wpQuiet_nil ?_
  intro wq hbq0
  have HBQ := Lib.hid hbq0
  clear hbq0 d1 d2 d3 d4 d5 k1
  go_wp2
  go_ret
  exact ⟨rfl, HBQ.out⟩
theorem enters_pt1 : Enters 66 := fun _ _ => by kernel_rfl
/-- the tour of a set's players -/
def ptL (xs : List Int) (S : Nat) : List Int := toL (fun a b => bt xs ((memN S 8).getD a 0) ((memN S 8).getD b 0)) (memN S 8).length
theorem ptL_len (xs : List Int) (S : Nat) : (ptL xs S).length = (memN S 8).length := toL_len _ _
set_option maxHeartbeats 2000000 in
theorem cPart (n : Nat) (sl : Value) (xs : List Int) (S : Nat) (w : World) (h : Rd w sl xs) (hp : tourP n xs) (h1 : 1 ≤ S) (hS : S < 2 ^ n) :
    Calls Tryd.prog 32 #[.agg #[.int .i64 n, sl], .int .i64 S] w fun e w' => ∃ Y cy, e = .returned (.tuple #[.agg #[.int .i64 (memN S 8).length, .slice Y (memN S 8).length cy], .bool true]) ∧ Own w' w.heap.size (.slice Y (memN S 8).length cy) (ptL xs S) ∧ Below w.heap.size w w' := by
  have HR := Lib.hid h
  have HP := Lib.hid hp
  have q0 : tourB n xs = true := tourB_true.2 hp
  have hln := tour_len hp
  have hs := hp.1
  have h8 : n ≤ 8 := by omega
  have h256 : 2 ^ n ≤ 256 := Nat.pow_le_pow_right (n := 2) (j := 8) (by decide) h8
  have hS256 : S < 256 := by omega
  have hin : inB (S : Int) 1 ((2 ^ n - 1 : Nat) : Int) = true := inB_true.2 ⟨by omega, by omega⟩
  have hfull := full_nat n (by omega)
  have HM : Hid (∀ b ∈ memN S 8, b < n) := Lib.hid fun b hb => bit_lt hS (mem_memN.1 hb).2
  have hm8 := memN_len S 8
  have hm1 : 1 ≤ (memN S 8).length := by
    obtain ⟨c, hc⟩ := Nat.exists_testBit_of_ne_zero (show S ≠ 0 by omega)
    exact List.length_pos_of_mem (mem_memN.2 ⟨by have := bit_lt hS hc; omega, hc⟩)
  obtain ⟨A, c, rfl, -, hcm, -⟩ := h
  unfold maxLen at hcm
  rw [hln] at HR ⊢
  clear hp hln hS h256
  go_enter Tryd.func32, Tryd.ntmps32
  go_wp2_with fail
  have b0 := (below_alloc1 w (.cells #[.int .i64 n, .slice A n c] 25)).alloc (by simp) (.cells #[.int .i64 0, .slice none 0 0] 25)
  have x0 := (TBox.new w n (.slice A n c) 25).below (below_alloc1 _ (.cells #[.int .i64 0, .slice none 0 0] 25))
  have t0 := BoxF.new (w.alloc (.cells #[.int .i64 n, .slice A n c] 25)) 0 (.slice none 0 0) 25
  simp only [World.size_alloc] at t0
  generalize (w.alloc (.cells #[.int .i64 n, .slice A n c] 25)).alloc (.cells #[.int .i64 0, .slice none 0 0] 25) = w0 at *
  have HX0 := Lib.hid x0
  have HB0 := Lib.hid b0
  have HT0 := Lib.hid t0
  clear x0 b0 t0
  have y0_0 := HX0.out.1
  have y1_0 := HX0.out.2
  go_wp2_with fail
  refine (implTourOk n _ xs _ (HR.out.below HB0.out)).mono ?_
  rintro e w1 ⟨rfl, hb⟩
  have HX1 := Lib.hid (HX0.out.below hb)
  have HT1 := Lib.hid (HT0.out.below hb)
  have HB1 := Lib.hid (Below.then HB0.out hb)
  clear hb HX0 HT0 HB0 y0_0 y1_0
  have y0_1 := HX1.out.1
  have y1_1 := HX1.out.2
  rw [q0]
  go_wp2_with fail
  refine (within_any _ _ _ _).mono ?_
  rintro e w2 ⟨rfl, rfl⟩
  first | rw [hin] | skip
  clear hfull
  go_wp2_with fail
  refine (membersOf_any S 8 _ hS256 (by omega)).mono ?_
  rintro e w3 ⟨v, rfl, ho, hb3⟩
  clear y0_1 y1_1 hin
  obtain ⟨LA, lc, rfl, hlc1, hlc2, -⟩ := memL_cells ho
  have HL3 := Lib.hid (show Rd w3 (.slice LA (memN S 8).length lc) (nI (memN S 8)) from ho.rd)
  generalize hmm : (memN S 8).length = m at *
  have HMM := Lib.hid hmm
  clear hmm ho
  obtain ⟨gl, hgl⟩ : ∃ gl, gl = w3.heap.size := ⟨_, rfl⟩
  have hba := below_alloc1 w3 (.cells #[.slice LA m lc] 23)
  have B14 := Lib.hid (Below.then hb3 hba)
  have HX4 := Lib.hid (HX1.out.below B14.out)
  have HT4 := Lib.hid (HT1.out.below B14.out)
  have HB4 := Lib.hid (Below.then HB1.out B14.out)
  have HL4 := Lib.hid (HL3.out.below hba)
  have HC4 : Hid ((w3.alloc (.cells #[.slice LA m lc] 23)).cell? ⟨gl, 0, none⟩ = some (.slice LA m lc)) := Lib.hid (by simp [hgl])
  clear hba hb3 HX1 HT1 HB1 HL3 B14
  go_wp2_with fail
  rw [← hgl]
  generalize w3.alloc (.cells #[.slice LA m lc] 23) = w4 at *
  clear hgl
  have y2 := HC4.out
  go_wp2_with fail
  refine (tourOf_any m hm1 hm8 66 #[.pointer (some ⟨w.heap.size, 0, none⟩), .pointer (some ⟨gl, 0, none⟩)] enters_pt1 (fun a b => bt xs ((memN S 8).getD a 0) ((memN S 8).getD b 0)) w4 (fun a b ha hb W hW => pt1_any n (.slice A n c) xs HP.out (memN S 8) m HMM.out (.slice LA m lc) a b w.heap.size gl W (HR.out.below (Below.then HB4.out hW)) (HX4.out.below hW) ((hW.cell (World.block_lt_of_cell? _ _ HC4.out)).trans HC4.out) (HL4.out.below hW) HM.out ha hb)).mono ?_
  rintro e w5 ⟨sl', rfl, ho, hb5⟩
  obtain ⟨Y, cy, rfl, -, -, -⟩ := ho.form
  rw [toL_len] at *
  have HO5 := Lib.hid ho
  have hT5 := HT4.out.below hb5
  have hgt := HT4.out.gt
  have HB5 := Lib.hid (Below.then HB4.out hb5)
  have v0 := hT5.1.1
  have v1 := hT5.1.2
  have f0 := hT5.2 0
  have f1 := hT5.2 1
  have HOx := Lib.hid ((ho.kept (setCell_grown _ ⟨w.heap.size + 1, 0, none⟩ (.int .i64 m)) (own_ne (fun k hk => (ho.lt k hk).1) hgt)).kept (setCell_grown _ ⟨w.heap.size + 1, 1, none⟩ (.slice Y m cy)) (own_ne (fun k hk => (ho.lt k hk).1) hgt))
  have HBx := Lib.hid ((HB5.out.setCell (p := ⟨w.heap.size + 1, 0, none⟩) (show w.heap.size ≤ w.heap.size + 1 by omega) (.int .i64 m)).setCell (p := ⟨w.heap.size + 1, 1, none⟩) (show w.heap.size ≤ w.heap.size + 1 by omega) (.slice Y m cy))
  have R0 : Hid (((w5.setCell ⟨w.heap.size + 1, 0, none⟩ (.int .i64 m)).setCell ⟨w.heap.size + 1, 1, none⟩ (.slice Y m cy)).cell? ⟨w.heap.size + 1, 0, none⟩ = some (.int .i64 m)) := (World.cell?_setCell_other _ _ _ _ (by simp)).trans (World.cell?_setCell_same _ _ _ v0)
  have R1 : Hid (((w5.setCell ⟨w.heap.size + 1, 0, none⟩ (.int .i64 m)).setCell ⟨w.heap.size + 1, 1, none⟩ (.slice Y m cy)).cell? ⟨w.heap.size + 1, 1, none⟩ = some (.slice Y m cy)) := World.cell?_setCell_same _ _ _ ((World.cell?_setCell_other _ _ _ _ (by simp)).trans v1)
  have HSZ := HB4.out.size
  have HPT : Hid (ptL xs S = toL (fun a b => bt xs ((memN S 8).getD a 0) ((memN S 8).getD b 0)) m) := Lib.hid (by unfold ptL; rw [HMM.out])
  clear ho hb5 hT5 y2
  go_wp2
  have r0 := R0.out
  have r1 := R1.out
  refine bodyPost_ret (v := .tuple #[.agg #[.int .i64 m, .slice Y m cy], .bool true]) (by simp only [results, Tryd.results32]; simp [go_sem, r0, r1]) rfl ⟨Y, cy, by rw [HMM.out], by rw [HMM.out, HPT.out]; exact HOx.out.mono HSZ, HBx.out⟩
end Go.Proofs.YtbkiedhaacapbaaDoor

