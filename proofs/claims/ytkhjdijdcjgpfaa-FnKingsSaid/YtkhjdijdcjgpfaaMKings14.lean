/- Texts put together: LFnKings. -/
import Derived.Test.YtkhjdijdcjgpfaaMKings05
import Derived.Test.YtkhjdijdcjgpfaaMKings06
import Derived.Test.YtkhjdijdcjgpfaaMKings08
import Derived.Test.YtkhjdijdcjgpfaaMKings09
import Derived.Test.YtkhjdijdcjgpfaaMKings13
import Derived.Test.YtkhjdijdcjgpfaaMKings12
import Derived.Deep.RegionHeld3
import Derived.Deep.DeepCutAuto
namespace Go.Proofs.Ytkhjdijdcjgpfaa
open Go.RowKit Go.Sort
set_option maxRecDepth 100000
/-- what stays while the law runs -/
structure KSt (w W : World) (bx n : Nat) (Y : Option Addr) (cy : Nat) (xs : List Int) (v0 : Value) : Prop where
  below : Below w.heap.size w W
  box : TBox W bx n (.slice Y n cy)
  tour : Rd W (.slice Y n cy) xs
  code : BytesV W w.heap.size v0
theorem KSt.next {w W W' : World} {bx n : Nat} {Y : Option Addr} {cy : Nat} {xs : List Int} {v0 : Value} (h : KSt w W bx n Y cy xs v0) (hb : Below W.heap.size W W') : KSt w W' bx n Y cy xs v0 :=
  ⟨Below.then h.below hb, h.box.below hb, h.tour.below hb, h.code.keep (fun p hp => hb.cell (by have := h.below.size; omega))⟩
theorem wrap_small (m : Nat) (h : m ≤ 1000000) : wrap64 (m : Int) = (m : Int) := by unfold wrap64; omega
theorem kg_arith (m : Nat) (h1 : 1 ≤ m) (h4 : m ≤ 4) : IntKind.i64.wrap ((m : Int) - 1) = ((m - 1 : Nat) : Int) ∧ wrap64 ((m : Int) - 1) = ((m - 1 : Nat) : Int) ∧ wrap64 ((m : Int) * ((m - 1 : Nat) : Int)) = ((m * (m - 1) : Nat) : Int) ∧ IntKind.i64.wrap ((m : Int) * ((m - 1 : Nat) : Int)) = ((m * (m - 1) : Nat) : Int) ∧
    wrap64 (((m * (m - 1) : Nat) : Int) / 2) = ((m * (m - 1) / 2 : Nat) : Int) ∧ ((m * (m - 1) : Nat) : Int) / 2 = ((m * (m - 1) / 2 : Nat) : Int) ∧ wrap64 (2 ^ (m * (m - 1) / 2)) = ((2 ^ (m * (m - 1) / 2) : Nat) : Int) ∧ m * (m - 1) / 2 ≤ 6 := by
  have : m = 1 ∨ m = 2 ∨ m = 3 ∨ m = 4 := by omega
  rcases this with rfl | rfl | rfl | rfl <;> decide +kernel
theorem sub_bit {d c : Nat} (hd : d < 256) (h : d.testBit c = true) : wrap64 ((d : Int) - ((2 ^ c : Nat) : Int)) = ((d - 2 ^ c : Nat) : Int) ∧ IntKind.i64.wrap ((d : Int) - ((2 ^ c : Nat) : Int)) = ((d - 2 ^ c : Nat) : Int) := by
  have hle := Nat.ge_two_pow_of_testBit h
  generalize 2 ^ c = q at *
  rw [show (d : Int) - (q : Int) = ((d - q : Nat) : Int) by omega]
  exact ⟨wrap_small _ (by omega), IntWalk.i64_in _ (by omega)⟩
def cvA (xs : List Int) (a c : Nat) : Bool := (List.range c).any fun d => cvB xs d a
theorem cvA_succ (xs : List Int) (a c : Nat) : cvA xs a (c + 1) = (cvA xs a c || cvB xs c a) := by simp [cvA, List.range_succ, List.any_append]
theorem cvA_king {n : Nat} {xs : List Int} (hp : tourP n xs) {a : Nat} (ha : a < n) : cvA xs a n = !kingN xs a := by
  rw [Bool.eq_iff_iff, Bool.not_eq_true', king_cover hp ha]
  unfold cvA
  rw [List.any_eq_true]
  constructor
  · rintro ⟨c, hc, h⟩; exact ⟨c, List.mem_range.1 hc, (cvB_iff hp ha).1 h⟩
  · rintro ⟨c, hc, h⟩; exact ⟨c, List.mem_range.2 hc, (cvB_iff hp ha).2 h⟩
set_option maxHeartbeats 8000000 in
theorem lawFnKings (v0 : Value) (w : World) (h0 : BytesV w w.heap.size v0) :
    Calls Try.prog 3 #[v0] w fun e w' => e = .returned (.bool true) ∧ Below w.heap.size w w' := by
  have HV := Lib.hid h0
  obtain ⟨A0, k0, c0, rfl, hk0, hc0, -⟩ := h0
  unfold maxLen at hc0
  by_cases hn0 : k0 ≤ 1048576
  case neg =>
    have hd0 : decide ((1048576 : Int) < (k0 : Int)) = true := by simp; omega
    go_enter Try.func3, Try.ntmps3
    go_wp2
    go_ret
    exact ⟨rfl, Below.refl _ _⟩
  have hd0 : decide ((1048576 : Int) < (k0 : Int)) = false := by simp; omega
  go_enter Try.func3, Try.ntmps3
  go_wp2_with fail
  refine (makeTour_any w (.slice A0 k0 c0) 0 7 0 7 rfl rfl (by omega) (by omega) (by omega) HV.out).mono ?_
  rintro e w1 ⟨n, sl, xs, rfl, hn7, hp, ho, hb⟩
  obtain ⟨Y, cy, rfl, -, hcy, -⟩ := ho.form
  have HP := Lib.hid hp
  have hn1 : 1 ≤ n := by have := hp.1; omega
  rw [tour_len hp] at *
  have bb := below_alloc1 w1 (.cells #[.int .i64 n, .slice Y n cy] 25)
  obtain ⟨bx, hbx⟩ : ∃ bx, bx = w1.heap.size := ⟨_, rfl⟩
  have HS : Hid (KSt w (w1.alloc (.cells #[.int .i64 n, .slice Y n cy] 25)) bx n Y cy xs (.slice A0 k0 c0)) := Lib.hid ⟨Below.then hb bb, by rw [hbx]; exact TBox.new w1 n (.slice Y n cy) 25, ho.rd.below bb, HV.out.keep (fun p hp => (Below.then hb bb).cell hp)⟩
  clear ho hb hp bb
  go_wp2_with fail
  rw [← hbx]
  generalize w1.alloc (.cells #[.int .i64 n, .slice Y n cy] 25) = w2 at *
  clear hbx
  have y0 := HS.out.box.1
  have y1 := HS.out.box.2
  go_wp2_with fail
  refine (cKings n _ xs w2 HS.out.tour HP.out).mono ?_
  rintro e w3 ⟨rfl, hb3⟩
  have HS3 := Lib.hid (HS.out.next hb3)
  clear hb3 HS y0 y1
  have y0 := HS3.out.box.1
  have y1 := HS3.out.box.2
  go_wp2_with fail
  refine (cSov n _ xs w3 HS3.out.tour HP.out).mono ?_
  rintro e w4 ⟨rfl, hb4⟩
  have HS4 := Lib.hid (HS3.out.next hb4)
  clear hb4 HS3 y0 y1
  have y0 := HS4.out.box.1
  have y1 := HS4.out.box.2
  go_wp2_with fail
  refine (cBanks n _ xs w4 HS4.out.tour HP.out).mono ?_
  rintro e w5 ⟨rfl, hb5⟩
  have HS5 := Lib.hid (HS4.out.next hb5)
  clear hb5 HS4 y0 y1
  obtain ⟨k, b, s, ek, eb, es, k1, k2, b1, b2, hless, hp2, hcase⟩ := kg_law HP.out
  have EK := Lib.hid ek
  have ES := Lib.hid es
  rw [← ek, ← eb, ← es]
  clear ek eb es
  have hand := i64_andNot_nat b k (by omega) (by omega)
  rw [hless] at hand
  have c1 : ¬ (k : Int) ≤ 0 := by omega
  have c2 : ¬ (b : Int) ≤ 0 := by omega
  have L1 := Lib.hid (fun W => lawBits_any k W k2)
  have L2 := Lib.hid (fun W => lawBits_any b W b2)
  have HPB := Lib.hid (show k = b → popN 8 k = popN 8 b from fun h => by rw [h])
  have HOM := Lib.hid (show popN 8 k = 1 ↔ 0 ≤ s from ⟨fun h => by rcases hcase with h1 | h1 <;> omega, fun h => by rcases hcase with h1 | h1 <;> omega⟩)
  have hc2 : (popN 8 k = 1 ∧ 0 ≤ s ∧ k = b) ∨ (popN 8 k ≠ 1 ∧ s < 0) := by
    rcases hcase with h | h
    · exact .inl ⟨h.1, h.2.1, h.2.2.1⟩
    · exact .inr ⟨h.1, by omega⟩
  have HS1 := Lib.hid (show -1 ≤ s ∧ s ≤ 8 from by
    rcases svI_facts HP.out with ⟨a, e, hs⟩ | ⟨e, -⟩
    · have := hs.1; have := ES.out; omega
    · have := ES.out; omega)
  generalize popN 8 k = pk at *
  generalize popN 8 b = pb at *
  clear hcase hless
  go_upto_region 9 with fail
  go_cut [69] (fun t69 wx => t69 = .bool false ∧ Hid (wx = w5))
  case first =>
    as_aux_lemma =>
      -- heavy
      have e2 : ((pk : Int) == 2) = false := by simp; omega
      rcases hc2 with ⟨hpk, hs, hkb⟩ | ⟨hpk, hs⟩
      · subst hkb
        have hpb : pb = 1 := by have := HPB.out rfl; omega
        subst hpk hpb
        have d1 : decide ((0 : Int) ≤ s) = true := by simp; omega
        go_wp2_with (go_at_call 12; refine (L1.out w5).mono ?_; rintro e vx ⟨rfl, rfl⟩)
        go_meet
        exact ⟨rfl, Lib.hid rfl⟩
      · have e1 : ((pk : Int) == 1) = false := by simp; omega
        have d1 : decide ((0 : Int) ≤ s) = false := by simp; omega
        by_cases hkb : k = b
        · subst hkb
          have hpb : pb = pk := (HPB.out rfl).symm
          subst hpb
          go_wp2_with (go_at_call 12; refine (L1.out w5).mono ?_; rintro e vx ⟨rfl, rfl⟩)
          go_meet
          exact ⟨rfl, Lib.hid rfl⟩
        · have hkb' : ((k : Int) == (b : Int)) = false := by simp; omega
          have hkbn : (k == b) = false := by simp; omega
          have hkbd : decide (k = b) = false := decide_eq_false hkb
          go_wp2_with (go_at_call 12; refine (L1.out w5).mono ?_; rintro e vx ⟨rfl, rfl⟩)
          go_meet
          exact ⟨rfl, Lib.hid rfl⟩
      -- light
  case rest =>
  as_aux_lemma =>
    obtain ⟨rfl, hwc⟩ := hcut
    have HS6 := Lib.hid (show KSt w wc bx n Y cy xs (.slice A0 k0 c0) by rw [hwc.out]; exact HS5.out)
    clear hwc HS5 c1 c2 hc2 hand
    go_wp2
    go_loopw [8, 9] (fun t8 t9 wr => ∃ (a best : Nat), a ≤ n ∧ t9 = .int .i64 a ∧ t8 = .int .i64 best ∧ best < n ∧ Hid (∀ c, c < a → scN xs c ≤ scN xs best) ∧ Hid (KSt w wr bx n Y cy xs (.slice A0 k0 c0))) (fun _ t9 _ => n - (intOf t9).toNat)
    case atStart => exact ⟨0, 0, by omega, rfl, rfl, by omega, Lib.hid (fun c hc => absurd hc (by omega)), HS6⟩
    case round =>
      obtain ⟨wo, rfl⟩ : ∃ x, x = wr := ⟨_, rfl⟩
      obtain ⟨a, best, ha, rfl, rfl, hbest, HBE, HS⟩ := hrel
      clear HS6
      by_cases hlt : a < n
      · as_aux_lemma =>
          -- heavy
          have y0 := HS.out.box.1
          have y1 := HS.out.box.2
          have k1 := quiet_below (w := wo) (fun W' hW => cScore HP.out (HS.out.next hW).tour a hlt)
          have k2 := quiet_below (w := wo) (fun W' hW => cScore HP.out (HS.out.next hW).tour best hbest)
          have z0 := cell_regrown y0
          have z1 := cell_regrown y1
          clear y0 y1
          have HSA := Lib.hid (show ∀ c, c < a + 1 → scN xs c ≤ scN xs (if scN xs best < scN xs a then a else best) from fun c hc => by
            by_cases e : c = a
            · subst e; split <;> omega
            · have := HBE.out c (by omega); split <;> omega)
          have HSB := Lib.hid (show (if scN xs best < scN xs a then a else best) < n by split <;> omega)
          generalize scN xs a = sa at *
          generalize scN xs best = sb at *
          go_wp2_with fail
          refine wp_region_below (by kernel_rfl) (by kernel_rfl) ?_
          repeat (go_big_quiet_step (first | (with_reducible exact k1 _ _) | (with_reducible exact k2 _ _)))
          refine wpQuiet_nil ?_
          intro wq hbq0
          have HS1 := Lib.hid (HS.out.next hbq0)
          clear hbq0 k1 k2 z0 z1 HS
          have hdc : (decide (sb < sa) = true ∧ sb < sa) ∨ (decide (sb < sa) = false ∧ ¬ sb < sa) := by
            by_cases h : sb < sa
            · exact .inl ⟨decide_eq_true h, h⟩
            · exact .inr ⟨decide_eq_false h, h⟩
          go_upto_if 81 with fail
          go_cut [8] (fun t8 wx => ∃ bn : Nat, t8 = .int .i64 bn ∧ bn < n ∧ Hid (∀ c, c < a + 1 → scN xs c ≤ scN xs bn) ∧ Hid (wx = wq))
          case first =>
            as_aux_lemma =>
              rcases hdc with ⟨h1, h2⟩ | ⟨h1, h2⟩
              · rw [if_pos h2] at HSA HSB
                go_wp2
                go_meet
                exact ⟨a, rfl, HSB.out, HSA, Lib.hid rfl⟩
              · rw [if_neg h2] at HSA HSB
                go_wp2
                go_meet
                exact ⟨best, rfl, HSB.out, HSA, Lib.hid rfl⟩
          case rest =>
          as_aux_lemma =>
            obtain ⟨bn, rfl, hbn, HBN, hwc⟩ := hcut
            have HSc := Lib.hid (show KSt w wc bx n Y cy xs (.slice A0 k0 c0) by rw [hwc.out]; exact HS1.out)
            clear hwc HS1 HSA HSB hdc HBE
            go_wp2
            go_loopw [10, 11] (fun t10 t11 wr => ∃ (c : Nat), c ≤ n ∧ t11 = .int .i64 c ∧ t10 = .bool (cvA xs a c) ∧ Hid (KSt w wr bx n Y cy xs (.slice A0 k0 c0))) (fun _ t11 _ => n - (intOf t11).toNat)
            case atStart => exact ⟨0, by omega, rfl, rfl, HSc⟩
            case round =>
              obtain ⟨wi, rfl⟩ : ∃ x, x = wr := ⟨_, rfl⟩
              obtain ⟨c, hc, rfl, rfl, HSi⟩ := hrel
              clear HSc
              by_cases hltc : c < n
              · have HCS := Lib.hid (cvA_succ xs a c)
                have y0 := HSi.out.box.1
                have y1 := HSi.out.box.2
                rcases q : cvA xs a c with _ | _
                · rw [q, Bool.false_or] at HCS
                  go_wp2_with fail
                  refine (cCover HP.out HSi.out.tour c a hltc hlt).mono ?_
                  rintro e w8 ⟨rfl, hb8⟩
                  have HS8 := Lib.hid (HSi.out.next hb8)
                  clear hb8 HSi y0 y1
                  go_wp2
                  go_roundw
                  case rel => exact ⟨c + 1, by omega, by go_num, by rw [HCS.out], HS8⟩
                  case measure => simp [intOf]; omega
                · rw [q, Bool.true_or] at HCS
                  go_wp2
                  go_roundw
                  case rel => exact ⟨c + 1, by omega, by go_num, by rw [HCS.out], HSi⟩
                  case measure => simp [intOf]; omega
              · as_aux_lemma =>
                obtain rfl : c = n := by omega
                obtain ⟨x, y, ex, ey, hx, hy, hkx, hxa, hyb, hys⟩ := kg_player HP.out hlt
                rw [← ES.out] at hys
                have HEX := Lib.hid ex
                have HEY := Lib.hid ey
                have HKX := Lib.hid hkx
                have HYB := Lib.hid hyb
                have hcov := cvA_king HP.out hlt
                have HKB := Lib.hid (show (k.testBit a) = kingN xs a by rw [EK.out, Bool.eq_iff_iff, kg_bit]; exact ⟨fun h => h.2, fun h => ⟨hlt, h⟩⟩)
                have hbit := bit_num k a
                rw [HKB.out] at hbit
                rw [hcov]
                have y0 := HSi.out.box.1
                have y1 := HSi.out.box.2
                clear ex ey hkx hyb hcov
                go_wp2_with fail
                refine (cClimb HP.out HSi.out.tour a hlt).mono ?_
                rintro e w8 ⟨rfl, hb8⟩
                rw [← HEX.out]
                have HS8 := Lib.hid (HSi.out.next hb8)
                clear hb8 HSi y0 y1
                have y0 := HS8.out.box.1
                have y1 := HS8.out.box.2
                go_wp2_with fail
                refine (cStep HP.out HS8.out.tour a hlt).mono ?_
                rintro e w9 ⟨rfl, hb9⟩
                rw [← HEY.out]
                have HS9 := Lib.hid (HS8.out.next hb9)
                clear hb9 HS8 y0 y1
                have y0 := HS9.out.box.1
                have y1 := HS9.out.box.2
                have k1 := quiet_below (w := w9) (fun W' hW => cKing HP.out (HS9.out.next hW).tour a hlt)
                have k2 := quiet_below (w := w9) (fun W' hW => cKing HP.out (HS9.out.next hW).tour x hx)
                have k3 := quiet_below (w := w9) (fun W' hW => cBeat HP.out (HS9.out.next hW).tour y a hy hlt)
                rw [HKX.out] at k2
                have z0 := cell_regrown y0
                have z1 := cell_regrown y1
                clear y0 y1
                rcases qk : kingN xs a with _ | _
                · rw [qk] at k1 hbit
                  by_cases hya : y = a
                  · as_aux_lemma =>
                    have has := hys.1 hya
                    subst hya
                    have t1 : ((y : Int) == s) = true := by simp; omega
                    clear has hys
                    clear k3
                    have k3 := k1
                    go_wp2_with fail
                    refine wp_region_below (by kernel_rfl) (lexB_cheap (by kernel_rfl) (by kernel_rfl)) ?_
                    repeat (go_big_quiet_step (first | (with_reducible exact k1 _ _) | (with_reducible exact k2 _ _) | (with_reducible exact k3 _ _)))
                    refine wpQuiet_nil ?_
                    intro wq hbq0
                    have HSq := Lib.hid (HS9.out.next hbq0)
                    clear hbq0 k1 k2 k3 z0 z1 HS9
                    go_wp2
                    go_roundw
                    case rel => exact ⟨y + 1, bn, by omega, by go_num, rfl, hbn, HBN, HSq⟩
                    case measure => simp [intOf]; omega
                  · as_aux_lemma =>
                    have has : ¬ (a : Int) = s := fun h => hya (hys.2 h)
                    rw [HYB.out hya] at k3
                    have t1 : ((a : Int) == s) = false := by simp; omega
                    clear has hys
                    have t2 : ((y : Int) == (a : Int)) = false := by simp; omega
                    have t3 : (y == a) = false := by simp; omega
                    have t4 : decide (y = a) = false := decide_eq_false hya
                    have t5 : (!decide (y = a)) = true := by simp; exact hya
                    have t6 : decide (¬ y = a) = true := decide_eq_true hya
                    have t7 : (y != a) = true := by simp; exact hya
                    have t8 : ((y : Int) != (a : Int)) = true := by simp; omega
                    have t9 : decide (¬ (y : Int) = (a : Int)) = true := by simp; omega
                    go_wp2_with fail
                    refine wp_region_below (by kernel_rfl) (lexB_cheap (by kernel_rfl) (by kernel_rfl)) ?_
                    repeat (go_big_quiet_step (first | (with_reducible exact k1 _ _) | (with_reducible exact k2 _ _) | (with_reducible exact k3 _ _)))
                    refine wpQuiet_nil ?_
                    intro wq hbq0
                    have HSq := Lib.hid (HS9.out.next hbq0)
                    clear hbq0 k1 k2 k3 z0 z1 HS9
                    go_wp2
                    go_roundw
                    case rel => exact ⟨a + 1, bn, by omega, by go_num, rfl, hbn, HBN, HSq⟩
                    case measure => simp [intOf]; omega
                · rw [qk] at k1 hbit
                  have hxe : x = a := hxa qk
                  subst hxe
                  by_cases hya : y = x
                  · as_aux_lemma =>
                    have has := hys.1 hya
                    subst hya
                    have t1 : ((y : Int) == s) = true := by simp; omega
                    clear has hys
                    clear k3
                    have k3 := k1
                    go_wp2_with fail
                    refine wp_region_below (by kernel_rfl) (lexB_cheap (by kernel_rfl) (by kernel_rfl)) ?_
                    repeat (go_big_quiet_step (first | (with_reducible exact k1 _ _) | (with_reducible exact k2 _ _) | (with_reducible exact k3 _ _)))
                    refine wpQuiet_nil ?_
                    intro wq hbq0
                    have HSq := Lib.hid (HS9.out.next hbq0)
                    clear hbq0 k1 k2 k3 z0 z1 HS9
                    go_wp2
                    go_roundw
                    case rel => exact ⟨y + 1, bn, by omega, by go_num, rfl, hbn, HBN, HSq⟩
                    case measure => simp [intOf]; omega
                  · as_aux_lemma =>
                    have has : ¬ (x : Int) = s := fun h => hya (hys.2 h)
                    rw [HYB.out hya] at k3
                    have t1 : ((x : Int) == s) = false := by simp; omega
                    clear has hys
                    have t2 : ((y : Int) == (x : Int)) = false := by simp; omega
                    have t3 : (y == x) = false := by simp; omega
                    have t4 : decide (y = x) = false := decide_eq_false hya
                    have t5 : (!decide (y = x)) = true := by simp; exact hya
                    have t6 : decide (¬ y = x) = true := decide_eq_true hya
                    have t7 : (y != x) = true := by simp; exact hya
                    have t8 : ((y : Int) != (x : Int)) = true := by simp; omega
                    have t9 : decide (¬ (y : Int) = (x : Int)) = true := by simp; omega
                    go_wp2_with fail
                    refine wp_region_below (by kernel_rfl) (lexB_cheap (by kernel_rfl) (by kernel_rfl)) ?_
                    repeat (go_big_quiet_step (first | (with_reducible exact k1 _ _) | (with_reducible exact k2 _ _) | (with_reducible exact k3 _ _)))
                    refine wpQuiet_nil ?_
                    intro wq hbq0
                    have HSq := Lib.hid (HS9.out.next hbq0)
                    clear hbq0 k1 k2 k3 z0 z1 HS9
                    go_wp2
                    go_roundw
                    case rel => exact ⟨x + 1, bn, by omega, by go_num, rfl, hbn, HBN, HSq⟩
                    case measure => simp [intOf]; omega
          -- light
      · as_aux_lemma =>
          obtain rfl : a = n := by omega
          have hkb := top_king HP.out hbest HBE.out
          have hd1 := (ld_dom HP.out).1
          have hdd := (ld_dom HP.out).2
          have hdl := ld_lt xs a
          have hd256 := n256 HP.out hdl
          have HLO := Lib.hid (ld_one HP.out)
          have HSV := Lib.hid (show (∃ c, svP xs a c) ↔ 0 ≤ s from by
            rcases svI_facts HP.out with ⟨c, e, hs⟩ | ⟨e, hs⟩
            · exact ⟨fun _ => by have := ES.out; omega, fun _ => ⟨c, hs⟩⟩
            · exact ⟨fun ⟨c, h⟩ => absurd h (hs c), fun h => by have := ES.out; omega⟩)
          have HLS := Lib.hid (fun c => @ld_less a xs HP.out c)
          have HPP := Lib.hid (show 1 ≤ popN 8 (ldN xs a) from by
            obtain ⟨c, hc⟩ := Nat.exists_testBit_of_ne_zero (show ldN xs a ≠ 0 by omega)
            exact pop_pos hd256 hc)
          have HDL : Hid (ldK xs a (2 ^ a - 1) = ldN xs a) := Lib.hid rfl
          have y0 := HS.out.box.1
          have y1 := HS.out.box.2
          go_wp2_with fail
          refine (cLDom a _ xs wo HS.out.tour HP.out).mono ?_
          rintro e w7 ⟨rfl, hb7⟩
          rw [HDL.out]
          have HS7 := Lib.hid (HS.out.next hb7)
          clear hb7 HS y0 y1 HBE HDL
          have L3 := Lib.hid (fun W => lawBits_any (ldN xs a) W hd256)
          generalize ldN xs a = d at *
          generalize popN 8 d = pd at *
          have hpd : (pd = 1 ∧ 0 ≤ s) ∨ (pd ≠ 1 ∧ s < 0) := by
            by_cases h : pd = 1
            · exact .inl ⟨h, HSV.out.1 (HLO.out.1 h)⟩
            · refine .inr ⟨h, Int.not_le.1 fun h2 => h (HLO.out.2 (HSV.out.2 h2))⟩
          have y0 := HS7.out.box.1
          have y1 := HS7.out.box.2
          go_upto_region 26 with fail
          go_cut [173] (fun t wx => t = .bool false ∧ Hid (KSt w wx bx a Y cy xs (.slice A0 k0 c0)))
          case first =>
            as_aux_lemma =>
              -- heavy
              have hc : ((pd : Int) == 1) = decide (0 ≤ s) := by
                rw [Bool.eq_iff_iff, beq_iff_eq, decide_eq_true_eq]
                omega
              go_wp2_with fail
              refine (cKing HP.out HS7.out.tour best hbest).mono ?_
              rintro e w8 ⟨rfl, hb8⟩
              rw [hkb]
              have HS8 := Lib.hid (HS7.out.next hb8)
              clear hb8 HS7 y0 y1
              have y0 := HS8.out.box.1
              have y1 := HS8.out.box.2
              go_wp2_with fail
              refine (cDom a _ xs d d rfl w8 HS8.out.tour HP.out hd1 hdl).mono ?_
              rintro e w9 ⟨rfl, hb9⟩
              rw [hdd]
              have HS9 := Lib.hid (HS8.out.next hb9)
              clear hb9 HS8 y0 y1
              go_wp2_with fail
              refine (L3.out w9).mono ?_
              rintro e vx ⟨rfl, rfl⟩
              rcases hpd with ⟨h1, h2⟩ | ⟨h1, h2⟩
              · subst h1
                have e2 : decide ((0 : Int) ≤ s) = true := decide_eq_true h2
                go_wp2
                go_meet
                exact ⟨rfl, HS9⟩
              · have e1 : ((pd : Int) == 1) = false := by simp; omega
                have e2 : decide ((0 : Int) ≤ s) = false := decide_eq_false (by omega)
                have e3 : decide (pd = 1) = false := decide_eq_false h1
                have e4 : (pd == 1) = false := by simp; omega
                clear hc
                go_wp2
                go_meet
                exact ⟨rfl, HS9⟩
              -- light
          case rest =>
          as_aux_lemma =>
            obtain ⟨rfl, HSc⟩ := hcut
            clear HS7 y0 y1
            go_wp2
            go_loopw [15] (fun t15 wr => ∃ (c : Nat), c ≤ a ∧ t15 = .int .i64 c ∧ Hid (KSt w wr bx a Y cy xs (.slice A0 k0 c0))) (fun t15 _ => a - (intOf t15).toNat)
            case atStart => exact ⟨0, by omega, rfl, HSc⟩
            case round =>
              obtain ⟨wi, rfl⟩ : ∃ x, x = wr := ⟨_, rfl⟩
              obtain ⟨c, hc, rfl, HSi⟩ := hrel
              clear HSc
              by_cases hltc : c < a
              · as_aux_lemma =>
                have hbit := bit_num d c
                have y0 := HSi.out.box.1
                have y1 := HSi.out.box.2
                have k1 := quiet_below (w := wi) (fun W' hW => of_same (L3.out W'))
                have z0 := cell_regrown y0
                have z1 := cell_regrown y1
                clear y0 y1
                rcases qb : d.testBit c with _ | _
                · as_aux_lemma =>
                  rw [qb] at hbit
                  have hb2 : bits BinOp.and IntKind.i64 ((d : Int) / 2 ^ c) 1 = 0 := hbit
                  clear hbit
                  go_wp2_with fail
                  refine wp_region_below (by kernel_rfl) (by kernel_rfl) ?_
                  repeat (go_big_quiet_step (first | (with_reducible exact k1 _ _)))
                  refine wpQuiet_nil ?_
                  intro wq hbq0
                  have HSq := Lib.hid (HSi.out.next hbq0)
                  clear hbq0 k1 z0 z1 HSi
                  go_wp2
                  go_roundw
                  case rel => exact ⟨c + 1, by omega, by go_num, HSq⟩
                  case measure => simp [intOf]; omega
                · as_aux_lemma =>
                  rw [qb] at hbit
                  have hb2 : bits BinOp.and IntKind.i64 ((d : Int) / 2 ^ c) 1 = 1 := hbit
                  clear hbit
                  by_cases hp1 : 1 < pd
                  · obtain ⟨e1, e2, e3, e4⟩ := HLS.out c qb hp1
                    obtain ⟨hsub, hsub2⟩ := sub_bit hd256 qb
                    rw [e1] at hsub hsub2
                    have hsh := shl_nat c (Nat.le_of_lt (Nat.lt_of_lt_of_le hltc (by omega)))
                    have kd := quiet_below (w := wi) (fun W' hW => cDom a (.slice Y a cy) xs (less d (2 ^ c)) _ rfl W' (HSi.out.next hW).tour HP.out e2 e3)
                    rw [e4] at kd
                    have g1 : decide ((1 : Int) < (pd : Int)) = true := by simp; omega
                    have g2 : decide (1 < pd) = true := by simp; omega
                    clear e1 e4
                    generalize less d (2 ^ c) = dl at *
                    generalize (2 ^ c : Nat) = pc at *
                    clear e2 e3
                    go_wp2_with fail
                    refine wp_region_below (by kernel_rfl) (by kernel_rfl) ?_
                    repeat (go_big_quiet_step (first | (with_reducible exact k1 _ _) | (with_reducible exact kd _ _)))
                    refine wpQuiet_nil ?_
                    intro wq hbq0
                    have HSq := Lib.hid (HSi.out.next hbq0)
                    clear hbq0 k1 z0 z1 HSi
                    go_wp2
                    go_roundw
                    case rel => exact ⟨c + 1, by omega, by go_num, HSq⟩
                    case measure => simp [intOf]; omega
                  · have g1 : decide ((1 : Int) < (pd : Int)) = false := by simp; omega
                    have g2 : decide (1 < pd) = false := by simp; omega
                    go_wp2_with fail
                    refine wp_region_below (by kernel_rfl) (by kernel_rfl) ?_
                    repeat (go_big_quiet_step (first | (with_reducible exact k1 _ _)))
                    refine wpQuiet_nil ?_
                    intro wq hbq0
                    have HSq := Lib.hid (HSi.out.next hbq0)
                    clear hbq0 k1 z0 z1 HSi
                    go_wp2
                    go_roundw
                    case rel => exact ⟨c + 1, by omega, by go_num, HSq⟩
                    case measure => simp [intOf]; omega
              · as_aux_lemma =>
                obtain rfl : c = a := by omega
                -- heavy
                clear L1 L2 L3 HLS HLO HSV HPP hpd HPB HOM
                go_wp2_with fail
                refine (makeNum_any wi (.slice A0 k0 c0) 30 30 rfl (by omega) (HSi.out.code.mono HSi.out.below.size)).mono ?_
                rintro e w8 ⟨K, rfl, hK, hb8⟩
                have HS8 := Lib.hid (HSi.out.next hb8)
                clear hb8 HSi
                obtain ⟨q, hq⟩ : ∃ q, q = K % 4 := ⟨_, rfl⟩
                obtain ⟨m, hm⟩ : ∃ m, m = q + 1 := ⟨_, rfl⟩
                have hm1 : 1 ≤ m ∧ m ≤ 4 := by omega
                have hm3 : m - 1 ≤ 3 := by omega
                have HM : Hid (m * (m - 1) ≤ 12) := Lib.hid (Nat.mul_le_mul hm1.2 hm3)
                clear hm3
                obtain ⟨hm1, hm4⟩ := hm1
                have ek : Int.tmod (K : Int) 4 = (q : Int) := by rw [Int.tmod_eq_emod_of_nonneg (by omega)]; omega
                have ek2 : (K : Int) % 4 = (q : Int) := by omega
                have em3 : (1 : Int) + (q : Int) = (m : Int) := by omega
                have em2 : IntKind.i64.wrap (1 + (q : Int)) = (m : Int) := by rw [em3]; exact IntWalk.i64_in _ (by omega)
                have em : wrap64 (1 + (q : Int)) = (m : Int) := by rw [em3]; exact wrap_small _ (by omega)
                clear hq hm hK em3
                go_wp2
                clear ek ek2 em em2
                go_loopw [16, 18] (fun t16 t18 wr => ∃ (i T : Nat), i ≤ m + 1 ∧ t18 = .int .i64 i ∧ t16 = .int .i64 T ∧ Hid (T = sumK (fun k => ckN m k (List.range (2 ^ (m * (m - 1) / 2)))) i) ∧ T ≤ 64 * i ∧ Hid (KSt w wr bx c Y cy xs (.slice A0 k0 c0))) (fun _ t18 _ => m + 1 - (intOf t18).toNat)
                case atStart => exact ⟨0, 0, by omega, rfl, rfl, Lib.hid rfl, by omega, HS8⟩
                case round =>
                  obtain ⟨wi, rfl⟩ : ∃ x, x = wr := ⟨_, rfl⟩
                  obtain ⟨i, T, hi, rfl, rfl, HT, hT, HSi⟩ := hrel
                  clear HS8
                  by_cases hlti : i ≤ m
                  · as_aux_lemma =>
                    have HTS := Lib.hid (show sumK (fun k => ckN m k (List.range (2 ^ (m * (m - 1) / 2)))) (i + 1) = sumK (fun k => ckN m k (List.range (2 ^ (m * (m - 1) / 2)))) i + ckN m i (List.range (2 ^ (m * (m - 1) / 2))) from rfl)
                    rw [← HT.out] at HTS
                    have hck : ckN m i (List.range (2 ^ (m * (m - 1) / 2))) ≤ 64 := by
                      have h1 := ck_le m i (List.range (2 ^ (m * (m - 1) / 2)))
                      rw [List.length_range] at h1
                      have h2 : 2 ^ (m * (m - 1) / 2) ≤ 64 := Nat.pow_le_pow_right (n := 2) (j := 6) (by decide) (by have := HM.out; omega)
                      omega
                    go_wp2_with fail
                    refine (cCountKings m i m i rfl rfl wi (by omega) (by omega) hlti).mono ?_
                    rintro e w9 ⟨rfl, hb9⟩
                    have HS9 := Lib.hid (HSi.out.next hb9)
                    clear hb9 HSi HT
                    generalize ckN m i (List.range (2 ^ (m * (m - 1) / 2))) = ci at *
                    go_wp2
                    go_roundw
                    case rel => exact ⟨i + 1, T + ci, by omega, by go_num, by go_num, Lib.hid HTS.out.symm, by omega, HS9⟩
                    case measure => simp [intOf]; omega
                  · as_aux_lemma =>
                    obtain rfl : i = m + 1 := by omega
                    have HTT := Lib.hid (HT.out.trans (ck_total (by omega) (by omega) _))
                    rw [List.length_range] at HTT
                    have HC2 := Lib.hid (ck_two (n := m) (by omega) (by omega) (List.range (2 ^ (m * (m - 1) / 2))))
                    clear HT
                    have hmi : (m = 1 ∧ decide ((m : Int) < 2) = true ∧ (m : Int) < 2) ∨ (2 ≤ m ∧ decide ((m : Int) < 2) = false ∧ ¬ (m : Int) < 2) := by
                      by_cases h : m = 1
                      · exact .inl ⟨h, by simp; omega, by omega⟩
                      · exact .inr ⟨by omega, by simp; omega, by omega⟩
                    have HC3 : Hid (2 ≤ m → ∀ W, Calls Try.prog 22 #[.int .i64 m, .int .i64 2] W fun e w' => e = .returned (.int .i64 0) ∧ Below W.heap.size W w') := Lib.hid fun h2 W => by
                      have := cCountKings m 2 m 2 rfl rfl W hm1 (by omega) h2
                      rw [HC2.out] at this
                      exact this
                    clear HC2
                    obtain ⟨f1, f1', f2, f2', f3, f3', f4, hp6⟩ := kg_arith m hm1 hm4
                    rw [← HTT.out] at f4
                    generalize m * (m - 1) / 2 = p at *
                    generalize m * (m - 1) = M at *
                    have hmin : min p 64 = p := Nat.min_eq_left (Nat.le_trans hp6 (by decide))
                    clear f3'
                    generalize m - 1 = r at *
                    have y0 := HSi.out.box.1
                    have y1 := HSi.out.box.2
                    go_wp2_with fail
                    refine (cDom c _ xs k k rfl wi HSi.out.tour HP.out k1 (by rw [EK.out]; exact kg_lt)).mono ?_
                    rintro e w9 ⟨rfl, hb9⟩
                    rw [show domN xs k = true by rw [EK.out]; exact kings_dom HP.out]
                    have HS9 := Lib.hid (HSi.out.next hb9)
                    clear hb9 HSi y0 y1
                    rcases hmi with ⟨-, d1, d2⟩ | ⟨hm2, d1, d2⟩
                    · as_aux_lemma =>
                        go_wp2
                        go_ret
                        exact ⟨rfl, HS9.out.below⟩
                    · as_aux_lemma =>
                        go_wp2_with fail
                        refine (HC3.out hm2 w9).mono ?_
                        rintro e w10 ⟨rfl, hb10⟩
                        have HS9 := Lib.hid (HS9.out.next hb10)
                        clear hb10
                        go_wp2
                        go_ret
                        exact ⟨rfl, HS9.out.below⟩
                -- light
end Go.Proofs.Ytkhjdijdcjgpfaa

