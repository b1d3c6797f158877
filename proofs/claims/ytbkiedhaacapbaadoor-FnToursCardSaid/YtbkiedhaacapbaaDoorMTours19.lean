/- Texts put together: LFnTours. -/
import Derived.Test.YtbkiedhaacapbaaDoorMTours09
import Derived.Test.YtbkiedhaacapbaaDoorMTours18
import Derived.Test.YtbkiedhaacapbaaDoorMTours10
import Derived.Test.YtbkiedhaacapbaaDoorMTours11
import Derived.Test.YtbkiedhaacapbaaDoorMTours13
import Derived.Test.YtbkiedhaacapbaaDoorMTours17
import Derived.Test.YtbkiedhaacapbaaDoorMTours15
import Derived.Test.YtbkiedhaacapbaaDoorMTours05
import Derived.Deep.RegionHeld3
import Derived.Deep.DeepCutAuto
namespace Go.Proofs.YtbkiedhaacapbaaDoor
open Go.RowKit Go.Sort
set_option maxRecDepth 100000
/-- a tour in a box -/
def TuB (W : World) (b n : Nat) (Y : Option Addr) (c : Nat) (xs : List Int) : Prop := TBox W b n (.slice Y n c) ∧ Rd W (.slice Y n c) xs
theorem TuB.below {W W' : World} {b n : Nat} {Y : Option Addr} {c : Nat} {xs : List Int} (h : TuB W b n Y c xs) (hb : Below W.heap.size W W') : TuB W' b n Y c xs := ⟨h.1.below hb, h.2.below hb⟩
theorem TuB.new {W : World} {n : Nat} {Y : Option Addr} {c : Nat} {xs : List Int} (h : Rd W (.slice Y n c) xs) (T : TypeId) : TuB (W.alloc (.cells #[.int .i64 n, .slice Y n c] T)) W.heap.size n Y c xs :=
  ⟨TBox.new W n (.slice Y n c) T, h.below (below_alloc1 W _)⟩
/-- what stays while the law runs -/
structure TUq (w W : World) (n : Nat) (xs ns : List Int) (bx bu br : Nat) (Y U R : Option Addr) (cy cu cr : Nat) (O : Option Addr) (oc : Nat) (S : Option Addr) (sc : Nat) (Q : Option Addr) (qc : Nat) : Prop where
  below : Below w.heap.size w W
  t : TuB W bx n Y cy xs
  u : TuB W bu n U cu (trnL xs n)
  r : TuB W br n R cr (rnL xs ns)
  o : Rd W (.slice O n oc) ns
  s : Rd W (.slice S n sc) (scL xs n)
  q : Rd W (.slice Q n qc) (scL (rnL xs ns) n)
theorem TUq.next {w W W' : World} {n : Nat} {xs ns : List Int} {bx bu br : Nat} {Y U R : Option Addr} {cy cu cr : Nat} {O : Option Addr} {oc : Nat} {S : Option Addr} {sc : Nat} {Q : Option Addr} {qc : Nat} (h : TUq w W n xs ns bx bu br Y U R cy cu cr O oc S sc Q qc) (hb : Below W.heap.size W W') : TUq w W' n xs ns bx bu br Y U R cy cu cr O oc S sc Q qc :=
  ⟨Below.then h.below hb, h.t.below hb, h.u.below hb, h.r.below hb, h.o.below hb, h.s.below hb, h.q.below hb⟩
theorem tu_ne {n a r : Nat} (ha : a < n) (hr : r + 1 < n) : (a + 1 + r) % n < n ∧ a ≠ (a + 1 + r) % n := by
  refine ⟨Nat.mod_lt _ (by omega), ?_⟩
  by_cases h : a + 1 + r < n
  · rw [Nat.mod_eq_of_lt h]; omega
  · rw [Nat.mod_eq_sub_mod (by omega), Nat.mod_eq_of_lt (by omega)]; omega
theorem tu_pow {n : Nat} (h1 : 1 ≤ n) (h7 : n ≤ 7) : ∃ P F : Nat, IntKind.i64.wrap (2 ^ n) = (P : Int) ∧ IntKind.i64.wrap ((P : Int) - 1) = (F : Int) ∧ F ≠ 0 ∧ F + 1 = 2 ^ n ∧ F ≤ 255 := by
  have hP8 := pow_le (show n ≤ 8 by omega)
  have hP1 : 2 ≤ 2 ^ n := Nat.pow_le_pow_right (n := 2) (i := 1) (by decide) h1
  refine ⟨2 ^ n, 2 ^ n - 1, ?_, ?_, by omega, by omega, by omega⟩
  · have := i64_shl_one n (by omega); rw [Int.one_mul] at this; exact this
  · rw [IntWalk.i64_in _ (by omega)]; omega
theorem tu_set (N F : Nat) (h0 : F ≠ 0) (hF : F ≤ 255) : ∃ r T : Nat, Int.tmod (N : Int) (F : Int) = (r : Int) ∧ (N : Int) % (F : Int) = (r : Int) ∧ IntKind.i64.wrap (1 + (r : Int)) = (T : Int) ∧ wrap64 (1 + (r : Int)) = (T : Int) ∧ 1 ≤ T ∧ T ≤ F := by
  have hr := Nat.mod_lt N (show 0 < F by omega)
  refine ⟨N % F, 1 + N % F, ?_, ?_, ?_, ?_, by omega, by omega⟩
  · rw [Int.tmod_eq_emod_of_nonneg (by omega)]; simp
  · simp
  · rw [IntWalk.i64_in _ (by omega)]; omega
  · rw [IntWalk.wrap64_in _ (by omega)]; omega
theorem tu_len {n G : Nat} (h1 : 1 ≤ n) (h7 : n ≤ 7) (hG : gmP n n = G) : ∃ a1 a2 L : Nat, IntKind.i64.wrap ((n : Int) - 1) = (a1 : Int) ∧ IntKind.i64.wrap ((n : Int) * (a1 : Int)) = (a2 : Int) ∧ ((a2 : Int)).tdiv 2 = (G : Int) ∧ IntKind.i64.wrap (G : Int) = (G : Int) ∧ IntKind.i64.wrap (2 + (G : Int)) = (L : Int) ∧ L = 2 + gmP n n := by
  have hg := gmP_full n
  have hn49 : n * n ≤ 7 * 7 := Nat.mul_le_mul h7 h7
  have e : n * (n - 1) + n = n * n := by
    obtain ⟨k, rfl⟩ : ∃ k, n = k + 1 := ⟨n - 1, by omega⟩
    simp only [Nat.add_sub_cancel, Nat.mul_add, Nat.add_mul, Nat.mul_one, Nat.one_mul]
  refine ⟨n - 1, n * (n - 1), 2 + G, ?_, ?_, ?_, ?_, ?_, by omega⟩
  · rw [IntWalk.i64_in _ (by omega)]; omega
  · rw [← Int.natCast_mul, IntWalk.i64_in _ (by omega)]
  · rw [Int.tdiv_eq_ediv_of_nonneg (by omega)]; omega
  · rw [IntWalk.i64_in _ (by omega)]
  · rw [IntWalk.i64_in _ (by omega)]; omega
theorem tu_ab {n : Nat} (N1 N2 : Nat) (h2 : 2 ≤ n) (h7 : n ≤ 7) : ∃ a b a1 r2 c d : Nat, Int.tmod (N1 : Int) (n : Int) = (a : Int) ∧ (N1 : Int) % (n : Int) = (a : Int) ∧ IntKind.i64.wrap ((n : Int) - 1) = (a1 : Int) ∧ a1 ≠ 0 ∧ Int.tmod (N2 : Int) (a1 : Int) = (r2 : Int) ∧ (N2 : Int) % (a1 : Int) = (r2 : Int) ∧
    wrap64 ((a : Int) + 1) = (c : Int) ∧ (a : Int) + 1 = (c : Int) ∧ wrap64 ((c : Int) + (r2 : Int)) = (d : Int) ∧ (c : Int) + (r2 : Int) = (d : Int) ∧ Int.tmod (d : Int) (n : Int) = (b : Int) ∧ (d : Int) % (n : Int) = (b : Int) ∧ a < n ∧ b < n ∧ a ≠ b ∧ (n : Int) - 1 = (a1 : Int) := by
  have ha := Nat.mod_lt N1 (show 0 < n by omega)
  have hr := Nat.mod_lt N2 (show 0 < n - 1 by omega)
  obtain ⟨hb, hab⟩ := tu_ne ha (show N2 % (n - 1) + 1 < n by omega)
  refine ⟨N1 % n, (N1 % n + 1 + N2 % (n - 1)) % n, n - 1, N2 % (n - 1), N1 % n + 1, N1 % n + 1 + N2 % (n - 1), ?_, by simp, ?_, by omega, ?_, ?_, ?_, by omega, ?_, by omega, ?_, by simp, ha, hb, hab, by omega⟩
  · rw [Int.tmod_eq_emod_of_nonneg (by omega)]; simp
  · rw [IntWalk.i64_in _ (by omega)]; omega
  · rw [Int.tmod_eq_emod_of_nonneg (by omega)]; simp
  · simp
  · rw [IntWalk.wrap64_in _ (by omega)]; omega
  · rw [IntWalk.wrap64_in _ (by omega)]; omega
  · rw [Int.tmod_eq_emod_of_nonneg (by omega)]; simp
set_option maxHeartbeats 4000000 in
theorem lawFnTours (v0 : Value) (w : World) (h0 : BytesV w w.heap.size v0) :
    Calls Tryd.prog 4 #[v0] w fun e w' => e = .returned (.bool true) ∧ Below w.heap.size w w' := by
  have HV := Lib.hid h0
  obtain ⟨A0, k0, c0, rfl, hk0, hc0, -⟩ := h0
  unfold maxLen at hc0
  by_cases hn0 : k0 ≤ 1048576
  case neg =>
    have hd0 : decide ((1048576 : Int) < (k0 : Int)) = true := by simp; omega
    go_enter Tryd.func4, Tryd.ntmps4
    go_wp2
    go_ret
    exact ⟨rfl, Below.refl _ _⟩
  have hd0 : decide ((1048576 : Int) < (k0 : Int)) = false := by simp; omega
  go_enter Tryd.func4, Tryd.ntmps4
  go_wp2_with fail
  refine (makeTour_any w (.slice A0 k0 c0) 0 7 0 7 rfl rfl (by omega) (by omega) (by omega) HV.out).mono ?_
  rintro e w1 ⟨n, sl, xs, rfl, hn7, hp, ho, hb⟩
  obtain ⟨Y, cy, rfl, -, hcy, -⟩ := ho.form
  have HP := Lib.hid hp
  have hn1 : 1 ≤ n := by have := hp.1; omega
  rw [tour_len hp] at *
  have bb := below_alloc1 w1 (.cells #[.int .i64 n, .slice Y n cy] 25)
  obtain ⟨bx, hbx⟩ : ∃ bx, bx = w1.heap.size := ⟨_, rfl⟩
  have HB2 := Lib.hid (Below.then hb bb)
  have HT2 : Hid (TuB (w1.alloc (.cells #[.int .i64 n, .slice Y n cy] 25)) bx n Y cy xs) := Lib.hid (by rw [hbx]; exact TuB.new ho.rd _)
  clear ho hb hp bb
  go_wp2_with fail
  rw [← hbx]
  generalize w1.alloc (.cells #[.int .i64 n, .slice Y n cy] 25) = w2 at *
  clear hbx
  have y0 := HT2.out.1.1
  have y1 := HT2.out.1.2
  go_wp2_with fail
  refine (makeOrder_any w2 (.slice A0 k0 c0) 20 20 n rfl (by omega) hn1 (by omega) ((HV.out.keep (fun p hp => HB2.out.cell hp)).mono HB2.out.size)).mono ?_
  rintro e w3 ⟨so, ns, rfl, hq, ho3, hb3⟩
  obtain ⟨O, oc, rfl, -⟩ := ho3.form
  rw [hq.1] at *
  have HQ := Lib.hid hq
  have HO3 := Lib.hid ho3.rd
  have HB3 := Lib.hid (Below.then HB2.out hb3)
  have HT3 := Lib.hid (HT2.out.below hb3)
  clear hq ho3 hb3 HT2 HB2 y0 y1
  have y0 := HT3.out.1.1
  have y1 := HT3.out.1.2
  go_wp2_with fail
  refine (cTurn HP.out HT3.out.2).mono ?_
  rintro e w4 ⟨U, cu, rfl, ho4, hb4⟩
  have bb := below_alloc1 w4 (.cells #[.int .i64 n, .slice U n cu] 25)
  obtain ⟨bu, hbu⟩ : ∃ bu, bu = w4.heap.size := ⟨_, rfl⟩
  have HU5 : Hid (TuB (w4.alloc (.cells #[.int .i64 n, .slice U n cu] 25)) bu n U cu (trnL xs n)) := Lib.hid (by rw [hbu]; exact TuB.new ho4.rd _)
  have HB5 := Lib.hid (Below.then (Below.then HB3.out hb4) bb)
  have HT5 := Lib.hid ((HT3.out.below hb4).below bb)
  have HO5 := Lib.hid ((HO3.out.below hb4).below bb)
  clear ho4 hb4 bb HT3 HB3 HO3 y0 y1
  go_wp2_with fail
  rw [← hbu]
  generalize w4.alloc (.cells #[.int .i64 n, .slice U n cu] 25) = w5 at *
  clear hbu
  have HPT := Lib.hid (trnL_tour HP.out)
  have x0 := HU5.out.1.1
  have x1 := HU5.out.1.2
  go_wp2_with fail
  refine (cTurn HPT.out HU5.out.2).mono ?_
  rintro e w6 ⟨V, cv, rfl, ho6, hb6⟩
  rw [turn_back HP.out] at ho6
  have bb := below_alloc1 w6 (.cells #[.int .i64 n, .slice V n cv] 25)
  obtain ⟨bv, hbv⟩ : ∃ bv, bv = w6.heap.size := ⟨_, rfl⟩
  have HV7 : Hid (TuB (w6.alloc (.cells #[.int .i64 n, .slice V n cv] 25)) bv n V cv xs) := Lib.hid (by rw [hbv]; exact TuB.new ho6.rd _)
  have HB7 := Lib.hid (Below.then (Below.then HB5.out hb6) bb)
  have HT7 := Lib.hid ((HT5.out.below hb6).below bb)
  have HO7 := Lib.hid ((HO5.out.below hb6).below bb)
  have HU7 := Lib.hid ((HU5.out.below hb6).below bb)
  clear ho6 hb6 bb HT5 HB5 HO5 HU5 x0 x1
  have y0 := HT7.out.1.1
  have y1 := HT7.out.1.2
  go_wp2_with fail
  rw [← hbv]
  generalize w6.alloc (.cells #[.int .i64 n, .slice V n cv] 25) = w7 at *
  clear hbv
  refine (cRename HP.out HT7.out.2 HO7.out HQ.out).mono ?_
  rintro e w8 ⟨R, cr, rfl, ho8, hb8⟩
  have bb := below_alloc1 w8 (.cells #[.int .i64 n, .slice R n cr] 25)
  obtain ⟨br, hbr⟩ : ∃ br, br = w8.heap.size := ⟨_, rfl⟩
  have HR9 : Hid (TuB (w8.alloc (.cells #[.int .i64 n, .slice R n cr] 25)) br n R cr (rnL xs ns)) := Lib.hid (by rw [hbr]; exact TuB.new ho8.rd _)
  have HB9 := Lib.hid (Below.then (Below.then HB7.out hb8) bb)
  have HT9 := Lib.hid ((HT7.out.below hb8).below bb)
  have HO9 := Lib.hid ((HO7.out.below hb8).below bb)
  have HU9 := Lib.hid ((HU7.out.below hb8).below bb)
  have HV9 := Lib.hid ((HV7.out.below hb8).below bb)
  clear ho8 hb8 bb HT7 HB7 HO7 HU7 HV7 y0 y1
  have y0 := HT9.out.1.1
  have y1 := HT9.out.1.2
  go_wp2_with fail
  rw [← hbr]
  generalize w8.alloc (.cells #[.int .i64 n, .slice R n cr] 25) = w9 at *
  clear hbr
  have HPR := Lib.hid (rn_tourN HP.out HQ.out)
  refine (scores_any n _ xs _ HT9.out.2 HP.out).mono ?_
  rintro e w10 ⟨S, sc, rfl, ho10, hb10⟩
  have HB10 := Lib.hid (Below.then HB9.out hb10)
  have HT10 := Lib.hid (HT9.out.below hb10)
  have HO10 := Lib.hid (HO9.out.below hb10)
  have HU10 := Lib.hid (HU9.out.below hb10)
  have HV10 := Lib.hid (HV9.out.below hb10)
  have HR10 := Lib.hid (HR9.out.below hb10)
  have HS10 := Lib.hid ho10.rd
  clear ho10 hb10 HB9 HT9 HO9 HU9 HV9 HR9 y0 y1
  have x0 := HR10.out.1.1
  have x1 := HR10.out.1.2
  go_wp2_with fail
  refine (scores_any n _ (rnL xs ns) _ HR10.out.2 HPR.out).mono ?_
  rintro e w11 ⟨Q, qc, rfl, ho11, hb11⟩
  have HS : Hid (TUq w w11 n xs ns bx bu br Y U R cy cu cr O oc S sc Q qc) := Lib.hid ⟨Below.then HB10.out hb11, HT10.out.below hb11, HU10.out.below hb11, HR10.out.below hb11, HO10.out.below hb11, HS10.out.below hb11, ho11.rd⟩
  have HV11 := Lib.hid (HV10.out.below hb11)
  clear ho11 hb11 HB10 HT10 HO10 HU10 HV10 HR10 HS10 x0 x1
  have y0 := HS.out.t.1.1
  have y1 := HS.out.t.1.2
  have x0 := HV11.out.1.1
  have x1 := HV11.out.1.2
  go_wp2_with fail
  refine (cSameT HP.out HV11.out.2 HP.out HS.out.t.2).mono ?_
  rintro e w12 ⟨rfl, hb12⟩
  rw [decide_eq_true (rfl : xs = xs)]
  have HS12 := Lib.hid (HS.out.next hb12)
  clear hb12 HS HV11 x0 x1 y0 y1
  have hsq := sq_half (n := n) (by omega)
  have HSL := Lib.hid (sc_list HP.out)
  have HDT := Lib.hid (df_turn HP.out)
  have HGP := Lib.hid (rfl : gmP n n = gmP n n)
  have hG64 : gmP n n ≤ 64 := by have := gmP_full n; have := Nat.mul_le_mul hn7 hn7; omega
  go_wp2_with fail
  refine (sum_any w12 _ (scL xs n) 8 HS12.out.s (by rw [scL_len]; omega) (by decide) (fun x hx => by
    unfold scL at hx
    rw [List.mem_map] at hx
    obtain ⟨a, -, rfl⟩ := hx
    have := scN_bd xs a
    omega)).mono ?_
  rintro e _ ⟨rfl, rfl⟩
  rw [HSL.out]
  have y0 := HS12.out.t.1.1
  have y1 := HS12.out.t.1.2
  have x0 := HS12.out.u.1.1
  have x1 := HS12.out.u.1.2
  go_wp2_with fail
  refine (cDiff HP.out HS12.out.t.2 HPT.out HS12.out.u.2).mono ?_
  rintro e w13 ⟨rfl, hb13⟩
  rw [HDT.out]
  have HS13 := Lib.hid (HS12.out.next hb13)
  clear hb13 HS12 x0 x1 y0 y1
  have y0 := HS13.out.t.1.1
  have y1 := HS13.out.t.1.2
  go_wp2_with fail
  refine (cSameT HP.out HS13.out.t.2 HP.out HS13.out.t.2).mono ?_
  rintro e w14 ⟨rfl, hb14⟩
  rw [decide_eq_true (rfl : xs = xs)]
  have HS14 := Lib.hid (HS13.out.next hb14)
  clear hb14 HS13 y0 y1 HSL HDT
  generalize hGE : gmP n n = G at *
  go_wp2_with fail
  obtain ⟨og, oo, rfl⟩ := rd_at HS14.out.o HQ.out.1 hn1
  obtain ⟨sg, so, rfl⟩ := rd_at HS14.out.s (scL_len _ _) hn1
  obtain ⟨qg, qo, rfl⟩ := rd_at HS14.out.q (scL_len _ _) hn1
  go_loopw [14] (fun t14 wr => ∃ a : Nat, a ≤ n ∧ t14 = .int .i64 a ∧ Hid (TUq w wr n xs ns bx bu br Y U R cy cu cr (some ⟨og, oo, none⟩) oc (some ⟨sg, so, none⟩) sc (some ⟨qg, qo, none⟩) qc)) (fun t14 _ => n - (intOf t14).toNat)
  case atStart => exact ⟨0, by omega, rfl, HS14⟩
  case round =>
    obtain ⟨wa, rfl⟩ : ∃ x, x = wr := ⟨_, rfl⟩
    obtain ⟨a, ha, rfl, HS⟩ := hrel
    clear HS14
    by_cases hlt : a < n
    · as_aux_lemma =>
      -- heavy
      have hnm := nm_val HQ.out hlt
      have hsr := sc_rename HP.out HQ.out hlt
      have hst := sc_turn HP.out hlt
      have hsb := sc_bd HP.out hlt
      obtain ⟨sa, hsa⟩ : ∃ s : Nat, scN xs a = (s : Int) := ⟨(scN xs a).toNat, by omega⟩
      rw [hsa] at hsr hst hsb
      have hsn : sa + 1 ≤ n := by omega
      obtain ⟨a1, ha1⟩ : ∃ k, k = n - 1 := ⟨_, rfl⟩
      obtain ⟨a2, ha2⟩ : ∃ k, k = a1 - sa := ⟨_, rfl⟩
      have q1 : IntKind.i64.wrap ((n : Int) - 1) = (a1 : Int) := by rw [IntWalk.i64_in _ (by omega)]; omega
      have q2 : IntKind.i64.wrap ((a1 : Int) - (sa : Int)) = (a2 : Int) := by rw [IntWalk.i64_in _ (by omega)]; omega
      rw [show (n : Int) - 1 - (sa : Int) = (a2 : Int) by omega] at hst
      have HNM := Lib.hid hnm.1
      have hpn := hnm.2
      have HSR := Lib.hid hsr
      generalize nmN ns a = p at *
      have KP : Hid (∀ W, TUq w W n xs ns bx bu br Y U R cy cu cr (some ⟨og, oo, none⟩) oc (some ⟨sg, so, none⟩) sc (some ⟨qg, qo, none⟩) qc → (W.cell? ⟨bx, 0, none⟩ = some (.int .i64 n) ∧ W.cell? ⟨bx, 1, none⟩ = some (.slice Y n cy) ∧ W.cell? ⟨bu, 0, none⟩ = some (.int .i64 n) ∧ W.cell? ⟨bu, 1, none⟩ = some (.slice U n cu) ∧ W.cell? ⟨og, oo + a, none⟩ = some (.int .i64 p) ∧ W.cell? ⟨qg, qo + p, none⟩ = some (.int .i64 sa) ∧ W.cell? ⟨sg, so + a, none⟩ = some (.int .i64 sa))) := Lib.hid fun W h => by
        have o1 := rd_cell h.o HQ.out.1 hlt
        rw [HNM.out] at o1
        have s1 := rd_cell h.s (scL_len _ _) hlt
        rw [scL_at xs hlt, hsa] at s1
        have q1 := rd_cell h.q (scL_len _ _) hpn
        rw [scL_at _ hpn, HSR.out] at q1
        exact ⟨h.t.1.1, h.t.1.2, h.u.1.1, h.u.1.2, o1, q1, s1⟩
      have KU : Hid (∀ W, TUq w W n xs ns bx bu br Y U R cy cu cr (some ⟨og, oo, none⟩) oc (some ⟨sg, so, none⟩) sc (some ⟨qg, qo, none⟩) qc → Calls Tryd.prog 29 #[.agg #[.int .i64 n, .slice U n cu], .int .i64 a] W fun e w' => e = .returned (.int .i64 a2) ∧ Below W.heap.size W w') := Lib.hid fun W h => by
        have := cScore HPT.out h.u.2 a hlt
        rwa [hst] at this
      have KT : Hid (∀ W, TUq w W n xs ns bx bu br Y U R cy cu cr (some ⟨og, oo, none⟩) oc (some ⟨sg, so, none⟩) sc (some ⟨qg, qo, none⟩) qc → Calls Tryd.prog 29 #[.agg #[.int .i64 n, .slice Y n cy], .int .i64 a] W fun e w' => e = .returned (.int .i64 sa) ∧ Below W.heap.size W w') := Lib.hid fun W h => by
        have := cScore HP.out h.t.2 a hlt
        rwa [hsa] at this
      clear hnm hsr hst hsb hsa HNM HSR ha1 ha2
      go_wp2_with fail
      have BB0 : Below wa.heap.size wa wa.drew := (Below.refl _ _).drew
      refine wp_region_held_drew (S := fun W => W.cell? ⟨bx, 0, none⟩ = some (.int .i64 n) ∧ W.cell? ⟨bx, 1, none⟩ = some (.slice Y n cy) ∧ W.cell? ⟨bu, 0, none⟩ = some (.int .i64 n) ∧ W.cell? ⟨bu, 1, none⟩ = some (.slice U n cu) ∧ W.cell? ⟨og, oo + a, none⟩ = some (.int .i64 p) ∧ W.cell? ⟨qg, qo + p, none⟩ = some (.int .i64 sa) ∧ W.cell? ⟨sg, so + a, none⟩ = some (.int .i64 sa)) (by kernel_rfl) (KP.out _ (HS.out.next BB0)) (fun hS0 => ?_)
      refine hTake (i := 0) (v := ?v0_1) rfl (by kernel_rfl) (by kernel_rfl) (by kernel_rfl) (fun _ _ _ h => h) (Or.inl ⟨by rfl, ?hy0_1⟩) hS0 ?rest0_1
      case hy0_1 =>
        intro W hSw
        (try dsimp only at hSw)
        go_simp
        first | done | (with_reducible rfl)
      try simp only [Act.put, List.setIfInBounds_toArray, List.set_cons_zero, List.set_cons_succ]
      refine hTake (i := 1) (v := ?v1_2) rfl (by kernel_rfl) (by kernel_rfl) (by kernel_rfl) (fun _ _ _ h => h) (Or.inl ⟨by rfl, ?hy1_2⟩) hS0 ?rest1_2
      case hy1_2 =>
        intro W hSw
        (try dsimp only at hSw)
        go_simp
        first | done | (with_reducible rfl)
      try simp only [Act.put, List.setIfInBounds_toArray, List.set_cons_zero, List.set_cons_succ]
      refine hTake (i := 2) (v := ?v2_3) rfl (by kernel_rfl) (by kernel_rfl) (by kernel_rfl) (fun _ _ _ h => h) (Or.inl ⟨by rfl, ?hy2_3⟩) hS0 ?rest2_3
      case hy2_3 =>
        intro W hSw
        (try dsimp only at hSw)
        go_simp
        first | done | (with_reducible rfl)
      try simp only [Act.put, List.setIfInBounds_toArray, List.set_cons_zero, List.set_cons_succ]
      refine hTake (i := 3) (v := ?v3_4) rfl (by kernel_rfl) (by kernel_rfl) (by kernel_rfl) (fun _ _ _ h => h) (Or.inl ⟨by rfl, ?hy3_4⟩) hS0 ?rest3_4
      case hy3_4 =>
        intro W hSw
        (try dsimp only at hSw)
        go_simp
        first | done | (with_reducible rfl)
      try simp only [Act.put, List.setIfInBounds_toArray, List.set_cons_zero, List.set_cons_succ]
      refine hTake (i := 4) (v := ?v4_5) rfl (by kernel_rfl) (by kernel_rfl) (by kernel_rfl) (fun _ _ _ h => h) (Or.inl ⟨by rfl, ?hy4_5⟩) hS0 ?rest4_5
      case hy4_5 =>
        intro W hSw
        (try dsimp only at hSw)
        go_simp
        first | done | (with_reducible rfl)
      try simp only [Act.put, List.setIfInBounds_toArray, List.set_cons_zero, List.set_cons_succ]
      refine hTake (i := 5) (v := ?v5_6) rfl (by kernel_rfl) (by kernel_rfl) (by kernel_rfl) (fun _ _ _ h => h) (Or.inl ⟨by rfl, ?hy5_6⟩) hS0 ?rest5_6
      case hy5_6 =>
        intro W hSw
        (try dsimp only at hSw)
        go_simp
        first | done | (with_reducible rfl)
      try simp only [Act.put, List.setIfInBounds_toArray, List.set_cons_zero, List.set_cons_succ]
      refine hTake (i := 6) (v := ?v6_7) rfl (by kernel_rfl) (by kernel_rfl) (by kernel_rfl) (fun _ _ _ h => h) (Or.inl ⟨by rfl, ?hy6_7⟩) hS0 ?rest6_7
      case hy6_7 =>
        intro W hSw
        (try dsimp only at hSw)
        go_simp
        first | done | (with_reducible rfl)
      try simp only [Act.put, List.setIfInBounds_toArray, List.set_cons_zero, List.set_cons_succ]
      refine hTake (i := 7) (v := ?v7_8) rfl (by kernel_rfl) (by kernel_rfl) (by kernel_rfl) (fun _ _ _ h => h) (Or.inl ⟨by rfl, ?hy7_8⟩) hS0 ?rest7_8
      case hy7_8 =>
        intro W hSw
        (try dsimp only at hSw)
        go_simp
        first | done | (with_reducible rfl)
      try simp only [Act.put, List.setIfInBounds_toArray, List.set_cons_zero, List.set_cons_succ]
      refine hTake (i := 8) (v := ?v8_9) rfl (by kernel_rfl) (by kernel_rfl) (by kernel_rfl) (fun _ _ _ h => h) (Or.inl ⟨by rfl, ?hy8_9⟩) hS0 ?rest8_9
      case hy8_9 =>
        intro W hSw
        (try dsimp only at hSw)
        go_simp
        first | done | (with_reducible rfl)
      try simp only [Act.put, List.setIfInBounds_toArray, List.set_cons_zero, List.set_cons_succ]
      refine hTake (i := 9) (v := ?v9_10) rfl (by kernel_rfl) (by kernel_rfl) (by kernel_rfl) (fun _ _ _ h => h) (Or.inl ⟨by rfl, ?hy9_10⟩) hS0 ?rest9_10
      case hy9_10 =>
        intro W hSw
        (try dsimp only at hSw)
        go_simp
        first | done | (with_reducible rfl)
      try simp only [Act.put, List.setIfInBounds_toArray, List.set_cons_zero, List.set_cons_succ]
      refine hTake (i := 10) (v := ?v10_11) rfl (by kernel_rfl) (by kernel_rfl) (by kernel_rfl) (fun _ _ _ h => h) (Or.inl ⟨by rfl, ?hy10_11⟩) hS0 ?rest10_11
      case hy10_11 =>
        intro W hSw
        (try dsimp only at hSw)
        go_simp
        first | done | (with_reducible rfl)
      try simp only [Act.put, List.setIfInBounds_toArray, List.set_cons_zero, List.set_cons_succ]
      refine hTake (i := 11) (v := ?v11_12) rfl (by kernel_rfl) (by kernel_rfl) (by kernel_rfl) (fun _ _ _ h => h) (Or.inl ⟨by rfl, ?hy11_12⟩) hS0 ?rest11_12
      case hy11_12 =>
        intro W hSw
        (try dsimp only at hSw)
        go_simp
        first | done | (with_reducible rfl)
      try simp only [Act.put, List.setIfInBounds_toArray, List.set_cons_zero, List.set_cons_succ]
      refine hTake (i := 12) (v := ?v12_13) rfl (by kernel_rfl) (by kernel_rfl) (by kernel_rfl) (fun _ _ _ h => h) (Or.inl ⟨by rfl, ?hy12_13⟩) hS0 ?rest12_13
      case hy12_13 =>
        intro W hSw
        (try dsimp only at hSw)
        go_simp
        first | done | (with_reducible rfl)
      try simp only [Act.put, List.setIfInBounds_toArray, List.set_cons_zero, List.set_cons_succ]
      refine hTake (i := 13) (v := ?v13_14) rfl (by kernel_rfl) (by kernel_rfl) (by kernel_rfl) (fun _ _ _ h => h) (Or.inl ⟨by rfl, ?hy13_14⟩) hS0 ?rest13_14
      case hy13_14 =>
        intro W hSw
        (try dsimp only at hSw)
        go_simp
        first | done | (with_reducible rfl)
      try simp only [Act.put, List.setIfInBounds_toArray, List.set_cons_zero, List.set_cons_succ]
      refine hTake (i := 14) (v := ?v14_15) rfl (by kernel_rfl) (by kernel_rfl) (by kernel_rfl) (fun _ _ _ h => h) (Or.inl ⟨by rfl, ?hy14_15⟩) hS0 ?rest14_15
      case hy14_15 =>
        intro W hSw
        (try dsimp only at hSw)
        go_simp
        first | done | (with_reducible rfl)
      try simp only [Act.put, List.setIfInBounds_toArray, List.set_cons_zero, List.set_cons_succ]
      refine hTake (i := 16) (v := ?v16_16) rfl (by kernel_rfl) (by kernel_rfl) (by kernel_rfl) (fun _ _ _ h => h) (Or.inl ⟨by rfl, ?hy16_16⟩) hS0 ?rest16_16
      case hy16_16 =>
        intro W hSw
        (try dsimp only at hSw)
        go_simp
        first | done | (with_reducible rfl)
      try simp only [Act.put, List.setIfInBounds_toArray, List.set_cons_zero, List.set_cons_succ]
      refine hTake (i := 17) (v := ?v17_17) rfl (by kernel_rfl) (by kernel_rfl) (by kernel_rfl) (fun _ _ _ h => h) (Or.inl ⟨by rfl, ?hy17_17⟩) hS0 ?rest17_17
      case hy17_17 =>
        intro W hSw
        (try dsimp only at hSw)
        go_simp
        first | done | (with_reducible rfl)
      try simp only [Act.put, List.setIfInBounds_toArray, List.set_cons_zero, List.set_cons_succ]
      refine hTake (i := 18) (v := ?v18_18) rfl (by kernel_rfl) (by kernel_rfl) (by kernel_rfl) (fun _ _ _ h => h) (Or.inl ⟨by rfl, ?hy18_18⟩) hS0 ?rest18_18
      case hy18_18 =>
        intro W hSw
        (try dsimp only at hSw)
        go_simp
        first | done | (with_reducible rfl)
      try simp only [Act.put, List.setIfInBounds_toArray, List.set_cons_zero, List.set_cons_succ]
      refine hTake (i := 19) (v := ?v19_19) rfl (by kernel_rfl) (by kernel_rfl) (by kernel_rfl) (fun _ _ _ h => h) (Or.inl ⟨by rfl, ?hy19_19⟩) hS0 ?rest19_19
      case hy19_19 =>
        intro W hSw
        (try dsimp only at hSw)
        go_simp
        first | done | (with_reducible rfl)
      try simp only [Act.put, List.setIfInBounds_toArray, List.set_cons_zero, List.set_cons_succ]
      refine hTake (i := 20) (v := ?v20_20) rfl (by kernel_rfl) (by kernel_rfl) (by kernel_rfl) (fun _ _ _ h => h) (Or.inl ⟨by rfl, ?hy20_20⟩) hS0 ?rest20_20
      case hy20_20 =>
        intro W hSw
        (try dsimp only at hSw)
        go_simp
        first | done | (with_reducible rfl)
      try simp only [Act.put, List.setIfInBounds_toArray, List.set_cons_zero, List.set_cons_succ]
      refine hTake (i := 21) (v := ?v21_21) rfl (by kernel_rfl) (by kernel_rfl) (by kernel_rfl) (fun _ _ _ h => h) (Or.inl ⟨by rfl, ?hy21_21⟩) hS0 ?rest21_21
      case hy21_21 =>
        intro W hSw
        (try dsimp only at hSw)
        go_simp
        first | done | (with_reducible rfl)
      try simp only [Act.put, List.setIfInBounds_toArray, List.set_cons_zero, List.set_cons_succ]
      refine hTake (i := 22) (v := ?v22_22) rfl (by kernel_rfl) (by kernel_rfl) (by kernel_rfl) (fun _ _ _ h => h) (Or.inl ⟨by rfl, ?hy22_22⟩) hS0 ?rest22_22
      case hy22_22 =>
        intro W hSw
        (try dsimp only at hSw)
        go_simp
        first | done | (with_reducible rfl)
      try simp only [Act.put, List.setIfInBounds_toArray, List.set_cons_zero, List.set_cons_succ]
      refine wpAnyH_ready (rs := [15]) (by kernel_rfl) (by simp) ?_
      refine hStep (i := 15) rfl (fun K hK => ?_) AllReadyH.nil
      go_simp; go_at_call 29; refine (KU.out _ (HS.out.next BB0)).mono ?_; rintro e v1 ⟨rfl, hb⟩; have BB1 := Below.then BB0 hb; clear hb; try go_wp2_with fail
      refine hK.out _ _ ?_ (fun hS1 => ?_)
      · (try dsimp only); exact KP.out _ (HS.out.next BB1)
      clear hK K
      try simp only [Act.put, List.setIfInBounds_toArray, List.set_cons_zero, List.set_cons_succ]
      refine hTake (i := 23) (v := ?v23_23) rfl (by kernel_rfl) (by kernel_rfl) (by kernel_rfl) (fun _ _ _ h => h) (Or.inl ⟨by rfl, ?hy23_23⟩) hS1 ?rest23_23
      case hy23_23 =>
        intro W hSw
        (try dsimp only at hSw)
        go_simp
        first | done | (with_reducible rfl)
      try simp only [Act.put, List.setIfInBounds_toArray, List.set_cons_zero, List.set_cons_succ]
      refine hTake (i := 24) (v := ?v24_24) rfl (by kernel_rfl) (by kernel_rfl) (by kernel_rfl) (fun _ _ _ h => h) (Or.inl ⟨by rfl, ?hy24_24⟩) hS1 ?rest24_24
      case hy24_24 =>
        intro W hSw
        (try dsimp only at hSw)
        go_simp
        first | done | (with_reducible rfl)
      try simp only [Act.put, List.setIfInBounds_toArray, List.set_cons_zero, List.set_cons_succ]
      refine hTake (i := 25) (v := ?v25_25) rfl (by kernel_rfl) (by kernel_rfl) (by kernel_rfl) (fun _ _ _ h => h) (Or.inl ⟨by rfl, ?hy25_25⟩) hS1 ?rest25_25
      case hy25_25 =>
        intro W hSw
        (try dsimp only at hSw)
        go_simp
        first | done | (with_reducible rfl)
      try simp only [Act.put, List.setIfInBounds_toArray, List.set_cons_zero, List.set_cons_succ]
      refine hTake (i := 26) (v := ?v26_26) rfl (by kernel_rfl) (by kernel_rfl) (by kernel_rfl) (fun _ _ _ h => h) (Or.inl ⟨by rfl, ?hy26_26⟩) hS1 ?rest26_26
      case hy26_26 =>
        intro W hSw
        (try dsimp only at hSw)
        go_simp
        first | done | (with_reducible rfl)
      try simp only [Act.put, List.setIfInBounds_toArray, List.set_cons_zero, List.set_cons_succ]
      refine hTake (i := 27) (v := ?v27_27) rfl (by kernel_rfl) (by kernel_rfl) (by kernel_rfl) (fun _ _ _ h => h) (Or.inl ⟨by rfl, ?hy27_27⟩) hS1 ?rest27_27
      case hy27_27 =>
        intro W hSw
        (try dsimp only at hSw)
        go_simp
        first | done | (with_reducible rfl)
      try simp only [Act.put, List.setIfInBounds_toArray, List.set_cons_zero, List.set_cons_succ]
      refine hTake (i := 29) (v := ?v29_28) rfl (by kernel_rfl) (by kernel_rfl) (by kernel_rfl) (fun _ _ _ h => h) (Or.inl ⟨by rfl, ?hy29_28⟩) hS1 ?rest29_28
      case hy29_28 =>
        intro W hSw
        (try dsimp only at hSw)
        go_simp
        first | done | (with_reducible rfl)
      try simp only [Act.put, List.setIfInBounds_toArray, List.set_cons_zero, List.set_cons_succ]
      refine hTake (i := 30) (v := ?v30_29) rfl (by kernel_rfl) (by kernel_rfl) (by kernel_rfl) (fun _ _ _ h => h) (Or.inl ⟨by rfl, ?hy30_29⟩) hS1 ?rest30_29
      case hy30_29 =>
        intro W hSw
        (try dsimp only at hSw)
        go_simp
        first | done | (with_reducible rfl)
      try simp only [Act.put, List.setIfInBounds_toArray, List.set_cons_zero, List.set_cons_succ]
      refine hTake (i := 31) (v := ?v31_30) rfl (by kernel_rfl) (by kernel_rfl) (by kernel_rfl) (fun _ _ _ h => h) (Or.inl ⟨by rfl, ?hy31_30⟩) hS1 ?rest31_30
      case hy31_30 =>
        intro W hSw
        (try dsimp only at hSw)
        go_simp
        first | done | (with_reducible rfl)
      try simp only [Act.put, List.setIfInBounds_toArray, List.set_cons_zero, List.set_cons_succ]
      refine hTake (i := 32) (v := ?v32_31) rfl (by kernel_rfl) (by kernel_rfl) (by kernel_rfl) (fun _ _ _ h => h) (Or.inl ⟨by rfl, ?hy32_31⟩) hS1 ?rest32_31
      case hy32_31 =>
        intro W hSw
        (try dsimp only at hSw)
        go_simp
        first | done | (with_reducible rfl)
      try simp only [Act.put, List.setIfInBounds_toArray, List.set_cons_zero, List.set_cons_succ]
      refine wpAnyH_ready (rs := [28]) (by kernel_rfl) (by simp) ?_
      refine hStep (i := 28) rfl (fun K hK => ?_) AllReadyH.nil
      go_simp; go_at_call 29; refine (KT.out _ (HS.out.next BB1)).mono ?_; rintro e v2 ⟨rfl, hb⟩; have BB2 := Below.then BB1 hb; clear hb; try go_wp2_with fail
      refine hK.out _ _ ?_ (fun hS2 => ?_)
      · (try dsimp only); exact KP.out _ (HS.out.next BB2)
      clear hK K
      try simp only [Act.put, List.setIfInBounds_toArray, List.set_cons_zero, List.set_cons_succ]
      refine hTake (i := 33) (v := ?v33_32) rfl (by kernel_rfl) (by kernel_rfl) (by kernel_rfl) (fun _ _ _ h => h) (Or.inl ⟨by rfl, ?hy33_32⟩) hS2 ?rest33_32
      case hy33_32 =>
        intro W hSw
        (try dsimp only at hSw)
        go_simp
        first | done | (with_reducible rfl)
      try simp only [Act.put, List.setIfInBounds_toArray, List.set_cons_zero, List.set_cons_succ]
      refine hTake (i := 34) (v := ?v34_33) rfl (by kernel_rfl) (by kernel_rfl) (by kernel_rfl) (fun _ _ _ h => h) (Or.inl ⟨by rfl, ?hy34_33⟩) hS2 ?rest34_33
      case hy34_33 =>
        intro W hSw
        (try dsimp only at hSw)
        go_simp
        first | done | (with_reducible rfl)
      try simp only [Act.put, List.setIfInBounds_toArray, List.set_cons_zero, List.set_cons_succ]
      refine wpAnyH_done (by kernel_rfl) ?_ _
      have HS2 := Lib.hid (HS.out.next BB2)
      clear hS0 hS1 hS2 BB0 BB1 BB2 KP KU KT HS
      go_wp2
      go_loopw [15] (fun t15 wr => ∃ b : Nat, b ≤ n ∧ t15 = .int .i64 b ∧ Hid (TUq w wr n xs ns bx bu br Y U R cy cu cr (some ⟨og, oo, none⟩) oc (some ⟨sg, so, none⟩) sc (some ⟨qg, qo, none⟩) qc)) (fun t15 _ => n - (intOf t15).toNat)
      case atStart => exact ⟨0, by omega, rfl, HS2⟩
      case round =>
        obtain ⟨wk, rfl⟩ : ∃ x, x = wr := ⟨_, rfl⟩
        clear HS2
        obtain ⟨b, hb, rfl, HS⟩ := hrel
        by_cases hltb : b < n
        · as_aux_lemma =>
          have hnm2 := nm_val HQ.out hltb
          have hnma := nm_val HQ.out hlt
          have hrb := rn_bit (tour_len HP.out) HQ.out hlt hltb
          have hub := trnL_bt HP.out hlt hltb
          have htb := tr_bit HP.out hlt hltb
          have HNM2 := Lib.hid hnm2.1
          have HNMa := Lib.hid hnma.1
          have hp2n := hnm2.2
          have hpn := hnma.2
          clear hnm2 hnma q1 q2
          generalize nmN ns a = p at *
          generalize nmN ns b = p2 at *
          have KP : Hid (∀ W, TUq w W n xs ns bx bu br Y U R cy cu cr (some ⟨og, oo, none⟩) oc (some ⟨sg, so, none⟩) sc (some ⟨qg, qo, none⟩) qc → (W.cell? ⟨bx, 0, none⟩ = some (.int .i64 n) ∧ W.cell? ⟨bx, 1, none⟩ = some (.slice Y n cy) ∧ W.cell? ⟨bu, 0, none⟩ = some (.int .i64 n) ∧ W.cell? ⟨bu, 1, none⟩ = some (.slice U n cu) ∧ W.cell? ⟨br, 0, none⟩ = some (.int .i64 n) ∧ W.cell? ⟨br, 1, none⟩ = some (.slice R n cr) ∧ W.cell? ⟨og, oo + a, none⟩ = some (.int .i64 p) ∧ W.cell? ⟨og, oo + b, none⟩ = some (.int .i64 p2))) := Lib.hid fun W h => by
            have o1 := rd_cell h.o HQ.out.1 hlt
            rw [HNMa.out] at o1
            have o2 := rd_cell h.o HQ.out.1 hltb
            rw [HNM2.out] at o2
            exact ⟨h.t.1.1, h.t.1.2, h.u.1.1, h.u.1.2, h.r.1.1, h.r.1.2, o1, o2⟩
          have KR : Hid (∀ W, TUq w W n xs ns bx bu br Y U R cy cu cr (some ⟨og, oo, none⟩) oc (some ⟨sg, so, none⟩) sc (some ⟨qg, qo, none⟩) qc → Calls Tryd.prog 12 #[.agg #[.int .i64 n, .slice R n cr], .int .i64 p, .int .i64 p2] W fun e w' => e = .returned (.bool (bt xs a b)) ∧ Below W.heap.size W w') := Lib.hid fun W h => by
            have := cBeat HPR.out h.r.2 p p2 hpn hp2n
            rwa [hrb] at this
          have KA : Hid (∀ W, TUq w W n xs ns bx bu br Y U R cy cu cr (some ⟨og, oo, none⟩) oc (some ⟨sg, so, none⟩) sc (some ⟨qg, qo, none⟩) qc → Calls Tryd.prog 12 #[.agg #[.int .i64 n, .slice Y n cy], .int .i64 a, .int .i64 b] W fun e w' => e = .returned (.bool (bt xs a b)) ∧ Below W.heap.size W w') := Lib.hid fun W h => cBeat HP.out h.t.2 a b hlt hltb
          have KC : Hid (∀ W, TUq w W n xs ns bx bu br Y U R cy cu cr (some ⟨og, oo, none⟩) oc (some ⟨sg, so, none⟩) sc (some ⟨qg, qo, none⟩) qc → Calls Tryd.prog 12 #[.agg #[.int .i64 n, .slice Y n cy], .int .i64 b, .int .i64 a] W fun e w' => e = .returned (.bool (bt xs b a)) ∧ Below W.heap.size W w') := Lib.hid fun W h => cBeat HP.out h.t.2 b a hltb hlt
          have KU : Hid (∀ W, TUq w W n xs ns bx bu br Y U R cy cu cr (some ⟨og, oo, none⟩) oc (some ⟨sg, so, none⟩) sc (some ⟨qg, qo, none⟩) qc → Calls Tryd.prog 12 #[.agg #[.int .i64 n, .slice U n cu], .int .i64 a, .int .i64 b] W fun e w' => e = .returned (.bool (bt xs b a)) ∧ Below W.heap.size W w') := Lib.hid fun W h => by
            have := cBeat HPT.out h.u.2 a b hlt hltb
            rwa [hub] at this
          clear hrb hub HNMa HNM2
          by_cases hab : a = b
          · as_aux_lemma =>
            have h1 := htb.1 hab
            have h2 : bt xs b a = false := by subst hab; exact h1
            rw [h1] at KR KA
            rw [h2] at KC KU
            have hne : ((a : Int) != (b : Int)) = false := by simp; omega
            clear htb h1 h2 hab
            go_wp2_with fail
            have BB0 : Below wk.heap.size wk wk.drew := (Below.refl _ _).drew
            refine wp_region_held_drew (S := fun W => W.cell? ⟨bx, 0, none⟩ = some (.int .i64 n) ∧ W.cell? ⟨bx, 1, none⟩ = some (.slice Y n cy) ∧ W.cell? ⟨bu, 0, none⟩ = some (.int .i64 n) ∧ W.cell? ⟨bu, 1, none⟩ = some (.slice U n cu) ∧ W.cell? ⟨br, 0, none⟩ = some (.int .i64 n) ∧ W.cell? ⟨br, 1, none⟩ = some (.slice R n cr) ∧ W.cell? ⟨og, oo + a, none⟩ = some (.int .i64 p) ∧ W.cell? ⟨og, oo + b, none⟩ = some (.int .i64 p2)) (by kernel_rfl) (KP.out _ (HS.out.next BB0)) (fun hS0 => ?_)
            refine hTake (i := 0) (v := ?v0_34) rfl (by kernel_rfl) (by kernel_rfl) (by kernel_rfl) (fun _ _ _ h => h) (Or.inl ⟨by rfl, ?hy0_34⟩) hS0 ?rest0_34
            case hy0_34 =>
              intro W hSw
              (try dsimp only at hSw)
              go_simp
              first | done | (with_reducible rfl)
            try simp only [Act.put, List.setIfInBounds_toArray, List.set_cons_zero, List.set_cons_succ]
            refine hTake (i := 1) (v := ?v1_35) rfl (by kernel_rfl) (by kernel_rfl) (by kernel_rfl) (fun _ _ _ h => h) (Or.inl ⟨by rfl, ?hy1_35⟩) hS0 ?rest1_35
            case hy1_35 =>
              intro W hSw
              (try dsimp only at hSw)
              go_simp
              first | done | (with_reducible rfl)
            try simp only [Act.put, List.setIfInBounds_toArray, List.set_cons_zero, List.set_cons_succ]
            refine hTake (i := 2) (v := ?v2_36) rfl (by kernel_rfl) (by kernel_rfl) (by kernel_rfl) (fun _ _ _ h => h) (Or.inl ⟨by rfl, ?hy2_36⟩) hS0 ?rest2_36
            case hy2_36 =>
              intro W hSw
              (try dsimp only at hSw)
              go_simp
              first | done | (with_reducible rfl)
            try simp only [Act.put, List.setIfInBounds_toArray, List.set_cons_zero, List.set_cons_succ]
            refine hTake (i := 3) (v := ?v3_37) rfl (by kernel_rfl) (by kernel_rfl) (by kernel_rfl) (fun _ _ _ h => h) (Or.inl ⟨by rfl, ?hy3_37⟩) hS0 ?rest3_37
            case hy3_37 =>
              intro W hSw
              (try dsimp only at hSw)
              go_simp
              first | done | (with_reducible rfl)
            try simp only [Act.put, List.setIfInBounds_toArray, List.set_cons_zero, List.set_cons_succ]
            refine hTake (i := 4) (v := ?v4_38) rfl (by kernel_rfl) (by kernel_rfl) (by kernel_rfl) (fun _ _ _ h => h) (Or.inl ⟨by rfl, ?hy4_38⟩) hS0 ?rest4_38
            case hy4_38 =>
              intro W hSw
              (try dsimp only at hSw)
              go_simp
              first | done | (with_reducible rfl)
            try simp only [Act.put, List.setIfInBounds_toArray, List.set_cons_zero, List.set_cons_succ]
            refine hTake (i := 5) (v := ?v5_39) rfl (by kernel_rfl) (by kernel_rfl) (by kernel_rfl) (fun _ _ _ h => h) (Or.inl ⟨by rfl, ?hy5_39⟩) hS0 ?rest5_39
            case hy5_39 =>
              intro W hSw
              (try dsimp only at hSw)
              go_simp
              first | done | (with_reducible rfl)
            try simp only [Act.put, List.setIfInBounds_toArray, List.set_cons_zero, List.set_cons_succ]
            refine hTake (i := 6) (v := ?v6_40) rfl (by kernel_rfl) (by kernel_rfl) (by kernel_rfl) (fun _ _ _ h => h) (Or.inl ⟨by rfl, ?hy6_40⟩) hS0 ?rest6_40
            case hy6_40 =>
              intro W hSw
              (try dsimp only at hSw)
              go_simp
              first | done | (with_reducible rfl)
            try simp only [Act.put, List.setIfInBounds_toArray, List.set_cons_zero, List.set_cons_succ]
            refine hTake (i := 7) (v := ?v7_41) rfl (by kernel_rfl) (by kernel_rfl) (by kernel_rfl) (fun _ _ _ h => h) (Or.inl ⟨by rfl, ?hy7_41⟩) hS0 ?rest7_41
            case hy7_41 =>
              intro W hSw
              (try dsimp only at hSw)
              go_simp
              first | done | (with_reducible rfl)
            try simp only [Act.put, List.setIfInBounds_toArray, List.set_cons_zero, List.set_cons_succ]
            refine hTake (i := 8) (v := ?v8_42) rfl (by kernel_rfl) (by kernel_rfl) (by kernel_rfl) (fun _ _ _ h => h) (Or.inl ⟨by rfl, ?hy8_42⟩) hS0 ?rest8_42
            case hy8_42 =>
              intro W hSw
              (try dsimp only at hSw)
              go_simp
              first | done | (with_reducible rfl)
            try simp only [Act.put, List.setIfInBounds_toArray, List.set_cons_zero, List.set_cons_succ]
            refine hTake (i := 10) (v := ?v10_43) rfl (by kernel_rfl) (by kernel_rfl) (by kernel_rfl) (fun _ _ _ h => h) (Or.inl ⟨by rfl, ?hy10_43⟩) hS0 ?rest10_43
            case hy10_43 =>
              intro W hSw
              (try dsimp only at hSw)
              go_simp
              first | done | (with_reducible rfl)
            try simp only [Act.put, List.setIfInBounds_toArray, List.set_cons_zero, List.set_cons_succ]
            refine hTake (i := 11) (v := ?v11_44) rfl (by kernel_rfl) (by kernel_rfl) (by kernel_rfl) (fun _ _ _ h => h) (Or.inl ⟨by rfl, ?hy11_44⟩) hS0 ?rest11_44
            case hy11_44 =>
              intro W hSw
              (try dsimp only at hSw)
              go_simp
              first | done | (with_reducible rfl)
            try simp only [Act.put, List.setIfInBounds_toArray, List.set_cons_zero, List.set_cons_succ]
            refine hTake (i := 12) (v := ?v12_45) rfl (by kernel_rfl) (by kernel_rfl) (by kernel_rfl) (fun _ _ _ h => h) (Or.inl ⟨by rfl, ?hy12_45⟩) hS0 ?rest12_45
            case hy12_45 =>
              intro W hSw
              (try dsimp only at hSw)
              go_simp
              first | done | (with_reducible rfl)
            try simp only [Act.put, List.setIfInBounds_toArray, List.set_cons_zero, List.set_cons_succ]
            refine wpAnyH_ready (rs := [9]) (by kernel_rfl) (by simp) ?_
            refine hStep (i := 9) rfl (fun K hK => ?_) AllReadyH.nil
            go_simp; go_at_call 12; refine (KR.out _ (HS.out.next BB0)).mono ?_; rintro e v1 ⟨rfl, hb⟩; have BB1 := Below.then BB0 hb; clear hb; try go_wp2_with fail
            refine hK.out _ _ ?_ (fun hS1 => ?_)
            · (try dsimp only); exact KP.out _ (HS.out.next BB1)
            clear hK K
            try simp only [Act.put, List.setIfInBounds_toArray, List.set_cons_zero, List.set_cons_succ]
            refine wpAnyH_ready (rs := [13]) (by kernel_rfl) (by simp) ?_
            refine hStep (i := 13) rfl (fun K hK => ?_) AllReadyH.nil
            go_simp; go_at_call 12; refine (KA.out _ (HS.out.next BB1)).mono ?_; rintro e v2 ⟨rfl, hb⟩; have BB2 := Below.then BB1 hb; clear hb; try go_wp2_with fail
            refine hK.out _ _ ?_ (fun hS2 => ?_)
            · (try dsimp only); exact KP.out _ (HS.out.next BB2)
            clear hK K
            try simp only [Act.put, List.setIfInBounds_toArray, List.set_cons_zero, List.set_cons_succ]
            refine hTake (i := 14) (v := ?v14_46) rfl (by kernel_rfl) (by kernel_rfl) (by kernel_rfl) (fun _ _ _ h => h) (Or.inl ⟨by rfl, ?hy14_46⟩) hS2 ?rest14_46
            case hy14_46 =>
              intro W hSw
              (try dsimp only at hSw)
              go_simp
              first | done | (with_reducible rfl)
            try simp only [Act.put, List.setIfInBounds_toArray, List.set_cons_zero, List.set_cons_succ]
            refine hTake (i := 15) (v := ?v15_47) rfl (by kernel_rfl) (by kernel_rfl) (by kernel_rfl) (fun _ _ _ h => h) (Or.inl ⟨by rfl, ?hy15_47⟩) hS2 ?rest15_47
            case hy15_47 =>
              intro W hSw
              (try dsimp only at hSw)
              go_simp
              first | done | (with_reducible rfl)
            try simp only [Act.put, List.setIfInBounds_toArray, List.set_cons_zero, List.set_cons_succ]
            refine hTake (i := 16) (v := ?v16_48) rfl (by kernel_rfl) (by kernel_rfl) (by kernel_rfl) (fun _ _ _ h => h) (Or.inl ⟨by rfl, ?hy16_48⟩) hS2 ?rest16_48
            case hy16_48 =>
              intro W hSw
              (try dsimp only at hSw)
              go_simp
              first | done | (with_reducible rfl)
            try simp only [Act.put, List.setIfInBounds_toArray, List.set_cons_zero, List.set_cons_succ]
            refine hTake (i := 17) (v := ?v17_49) rfl (by kernel_rfl) (by kernel_rfl) (by kernel_rfl) (fun _ _ _ h => h) (Or.inl ⟨by rfl, ?hy17_49⟩) hS2 ?rest17_49
            case hy17_49 =>
              intro W hSw
              (try dsimp only at hSw)
              go_simp
              first | done | (with_reducible rfl)
            try simp only [Act.put, List.setIfInBounds_toArray, List.set_cons_zero, List.set_cons_succ]
            refine hTake (i := 18) (v := ?v18_50) rfl (by kernel_rfl) (by kernel_rfl) (by kernel_rfl) (fun _ _ _ h => h) (Or.inl ⟨by rfl, ?hy18_50⟩) hS2 ?rest18_50
            case hy18_50 =>
              intro W hSw
              (try dsimp only at hSw)
              go_simp
              first | done | (with_reducible rfl)
            try simp only [Act.put, List.setIfInBounds_toArray, List.set_cons_zero, List.set_cons_succ]
            refine hTake (i := 19) (v := ?v19_51) rfl (by kernel_rfl) (by kernel_rfl) (by kernel_rfl) (fun _ _ _ h => h) (Or.inl ⟨by rfl, ?hy19_51⟩) hS2 ?rest19_51
            case hy19_51 =>
              intro W hSw
              (try dsimp only at hSw)
              go_simp
              first | done | (with_reducible rfl)
            try simp only [Act.put, List.setIfInBounds_toArray, List.set_cons_zero, List.set_cons_succ]
            refine hSkip (i := 20) rfl (by kernel_rfl) (by kernel_rfl) (by kernel_rfl) (fun _ _ _ h => h) (by first | rfl | (simp [Region.wanted, yielded, *]; done)) hS2 ?_
            try simp only [Act.put, List.setIfInBounds_toArray, List.set_cons_zero, List.set_cons_succ]
            refine hSkip (i := 21) rfl (by kernel_rfl) (by kernel_rfl) (by kernel_rfl) (fun _ _ _ h => h) (by first | rfl | (simp [Region.wanted, yielded, *]; done)) hS2 ?_
            try simp only [Act.put, List.setIfInBounds_toArray, List.set_cons_zero, List.set_cons_succ]
            refine hSkip (i := 22) rfl (by kernel_rfl) (by kernel_rfl) (by kernel_rfl) (fun _ _ _ h => h) (by first | rfl | (simp [Region.wanted, yielded, *]; done)) hS2 ?_
            try simp only [Act.put, List.setIfInBounds_toArray, List.set_cons_zero, List.set_cons_succ]
            refine hSkip (i := 23) rfl (by kernel_rfl) (by kernel_rfl) (by kernel_rfl) (fun _ _ _ h => h) (by first | rfl | (simp [Region.wanted, yielded, *]; done)) hS2 ?_
            try simp only [Act.put, List.setIfInBounds_toArray, List.set_cons_zero, List.set_cons_succ]
            refine hSkip (i := 24) rfl (by kernel_rfl) (by kernel_rfl) (by kernel_rfl) (fun _ _ _ h => h) (by first | rfl | (simp [Region.wanted, yielded, *]; done)) hS2 ?_
            try simp only [Act.put, List.setIfInBounds_toArray, List.set_cons_zero, List.set_cons_succ]
            refine hSkip (i := 25) rfl (by kernel_rfl) (by kernel_rfl) (by kernel_rfl) (fun _ _ _ h => h) (by first | rfl | (simp [Region.wanted, yielded, *]; done)) hS2 ?_
            try simp only [Act.put, List.setIfInBounds_toArray, List.set_cons_zero, List.set_cons_succ]
            refine hSkip (i := 26) rfl (by kernel_rfl) (by kernel_rfl) (by kernel_rfl) (fun _ _ _ h => h) (by first | rfl | (simp [Region.wanted, yielded, *]; done)) hS2 ?_
            try simp only [Act.put, List.setIfInBounds_toArray, List.set_cons_zero, List.set_cons_succ]
            refine hSkip (i := 27) rfl (by kernel_rfl) (by kernel_rfl) (by kernel_rfl) (fun _ _ _ h => h) (by first | rfl | (simp [Region.wanted, yielded, *]; done)) hS2 ?_
            try simp only [Act.put, List.setIfInBounds_toArray, List.set_cons_zero, List.set_cons_succ]
            refine hSkip (i := 28) rfl (by kernel_rfl) (by kernel_rfl) (by kernel_rfl) (fun _ _ _ h => h) (by first | rfl | (simp [Region.wanted, yielded, *]; done)) hS2 ?_
            try simp only [Act.put, List.setIfInBounds_toArray, List.set_cons_zero, List.set_cons_succ]
            refine hTake (i := 29) (v := ?v29_61) rfl (by kernel_rfl) (by kernel_rfl) (by kernel_rfl) (fun _ _ _ h => h) (Or.inl ⟨by rfl, ?hy29_61⟩) hS2 ?rest29_61
            case hy29_61 =>
              intro W hSw
              (try dsimp only at hSw)
              go_simp
              first | done | (with_reducible rfl)
            try simp only [Act.put, List.setIfInBounds_toArray, List.set_cons_zero, List.set_cons_succ]
            refine hTake (i := 30) (v := ?v30_62) rfl (by kernel_rfl) (by kernel_rfl) (by kernel_rfl) (fun _ _ _ h => h) (Or.inl ⟨by rfl, ?hy30_62⟩) hS2 ?rest30_62
            case hy30_62 =>
              intro W hSw
              (try dsimp only at hSw)
              go_simp
              first | done | (with_reducible rfl)
            try simp only [Act.put, List.setIfInBounds_toArray, List.set_cons_zero, List.set_cons_succ]
            refine hTake (i := 31) (v := ?v31_63) rfl (by kernel_rfl) (by kernel_rfl) (by kernel_rfl) (fun _ _ _ h => h) (Or.inl ⟨by rfl, ?hy31_63⟩) hS2 ?rest31_63
            case hy31_63 =>
              intro W hSw
              (try dsimp only at hSw)
              go_simp
              first | done | (with_reducible rfl)
            try simp only [Act.put, List.setIfInBounds_toArray, List.set_cons_zero, List.set_cons_succ]
            refine hTake (i := 32) (v := ?v32_64) rfl (by kernel_rfl) (by kernel_rfl) (by kernel_rfl) (fun _ _ _ h => h) (Or.inl ⟨by rfl, ?hy32_64⟩) hS2 ?rest32_64
            case hy32_64 =>
              intro W hSw
              (try dsimp only at hSw)
              go_simp
              first | done | (with_reducible rfl)
            try simp only [Act.put, List.setIfInBounds_toArray, List.set_cons_zero, List.set_cons_succ]
            refine hTake (i := 33) (v := ?v33_65) rfl (by kernel_rfl) (by kernel_rfl) (by kernel_rfl) (fun _ _ _ h => h) (Or.inl ⟨by rfl, ?hy33_65⟩) hS2 ?rest33_65
            case hy33_65 =>
              intro W hSw
              (try dsimp only at hSw)
              go_simp
              first | done | (with_reducible rfl)
            try simp only [Act.put, List.setIfInBounds_toArray, List.set_cons_zero, List.set_cons_succ]
            refine hTake (i := 34) (v := ?v34_66) rfl (by kernel_rfl) (by kernel_rfl) (by kernel_rfl) (fun _ _ _ h => h) (Or.inl ⟨by rfl, ?hy34_66⟩) hS2 ?rest34_66
            case hy34_66 =>
              intro W hSw
              (try dsimp only at hSw)
              go_simp
              first | done | (with_reducible rfl)
            try simp only [Act.put, List.setIfInBounds_toArray, List.set_cons_zero, List.set_cons_succ]
            refine hTake (i := 36) (v := ?v36_67) rfl (by kernel_rfl) (by kernel_rfl) (by kernel_rfl) (fun _ _ _ h => h) (Or.inl ⟨by rfl, ?hy36_67⟩) hS2 ?rest36_67
            case hy36_67 =>
              intro W hSw
              (try dsimp only at hSw)
              go_simp
              first | done | (with_reducible rfl)
            try simp only [Act.put, List.setIfInBounds_toArray, List.set_cons_zero, List.set_cons_succ]
            refine hTake (i := 37) (v := ?v37_68) rfl (by kernel_rfl) (by kernel_rfl) (by kernel_rfl) (fun _ _ _ h => h) (Or.inl ⟨by rfl, ?hy37_68⟩) hS2 ?rest37_68
            case hy37_68 =>
              intro W hSw
              (try dsimp only at hSw)
              go_simp
              first | done | (with_reducible rfl)
            try simp only [Act.put, List.setIfInBounds_toArray, List.set_cons_zero, List.set_cons_succ]
            refine hTake (i := 38) (v := ?v38_69) rfl (by kernel_rfl) (by kernel_rfl) (by kernel_rfl) (fun _ _ _ h => h) (Or.inl ⟨by rfl, ?hy38_69⟩) hS2 ?rest38_69
            case hy38_69 =>
              intro W hSw
              (try dsimp only at hSw)
              go_simp
              first | done | (with_reducible rfl)
            try simp only [Act.put, List.setIfInBounds_toArray, List.set_cons_zero, List.set_cons_succ]
            refine wpAnyH_ready (rs := [35]) (by kernel_rfl) (by simp) ?_
            refine hStep (i := 35) rfl (fun K hK => ?_) AllReadyH.nil
            go_simp; go_at_call 12; refine (KU.out _ (HS.out.next BB2)).mono ?_; rintro e v3 ⟨rfl, hb⟩; have BB3 := Below.then BB2 hb; clear hb; try go_wp2_with fail
            refine hK.out _ _ ?_ (fun hS3 => ?_)
            · (try dsimp only); exact KP.out _ (HS.out.next BB3)
            clear hK K
            try simp only [Act.put, List.setIfInBounds_toArray, List.set_cons_zero, List.set_cons_succ]
            refine wpAnyH_ready (rs := [39]) (by kernel_rfl) (by simp) ?_
            refine hStep (i := 39) rfl (fun K hK => ?_) AllReadyH.nil
            go_simp; go_at_call 12; refine (KC.out _ (HS.out.next BB3)).mono ?_; rintro e v4 ⟨rfl, hb⟩; have BB4 := Below.then BB3 hb; clear hb; try go_wp2_with fail
            refine hK.out _ _ ?_ (fun hS4 => ?_)
            · (try dsimp only); exact KP.out _ (HS.out.next BB4)
            clear hK K
            try simp only [Act.put, List.setIfInBounds_toArray, List.set_cons_zero, List.set_cons_succ]
            refine hTake (i := 40) (v := ?v40_70) rfl (by kernel_rfl) (by kernel_rfl) (by kernel_rfl) (fun _ _ _ h => h) (Or.inl ⟨by rfl, ?hy40_70⟩) hS4 ?rest40_70
            case hy40_70 =>
              intro W hSw
              (try dsimp only at hSw)
              go_simp
              first | done | (with_reducible rfl)
            try simp only [Act.put, List.setIfInBounds_toArray, List.set_cons_zero, List.set_cons_succ]
            refine hTake (i := 41) (v := ?v41_71) rfl (by kernel_rfl) (by kernel_rfl) (by kernel_rfl) (fun _ _ _ h => h) (Or.inl ⟨by rfl, ?hy41_71⟩) hS4 ?rest41_71
            case hy41_71 =>
              intro W hSw
              (try dsimp only at hSw)
              go_simp
              first | done | (with_reducible rfl)
            try simp only [Act.put, List.setIfInBounds_toArray, List.set_cons_zero, List.set_cons_succ]
            refine wpAnyH_done (by kernel_rfl) ?_ _
            have HSn := Lib.hid (HS.out.next BB4)
            clear hS0 hS1 hS2 hS3 hS4 BB0 BB1 BB2 BB3 BB4 KP KR KA KC KU HS
            go_wp2
            go_roundw
            case rel => exact ⟨b + 1, by omega, by go_num, HSn⟩
            case measure => simp [intOf]; omega
          · have h1 := htb.2 hab
            rw [h1] at KR KA
            have hne : ((a : Int) != (b : Int)) = true := by simp; omega
            clear htb h1 hab
            generalize bt xs b a = q at *
            rcases q with _ | _
            · as_aux_lemma =>
              go_wp2_with fail
              have BB0 : Below wk.heap.size wk wk.drew := (Below.refl _ _).drew
              refine wp_region_held_drew (S := fun W => W.cell? ⟨bx, 0, none⟩ = some (.int .i64 n) ∧ W.cell? ⟨bx, 1, none⟩ = some (.slice Y n cy) ∧ W.cell? ⟨bu, 0, none⟩ = some (.int .i64 n) ∧ W.cell? ⟨bu, 1, none⟩ = some (.slice U n cu) ∧ W.cell? ⟨br, 0, none⟩ = some (.int .i64 n) ∧ W.cell? ⟨br, 1, none⟩ = some (.slice R n cr) ∧ W.cell? ⟨og, oo + a, none⟩ = some (.int .i64 p) ∧ W.cell? ⟨og, oo + b, none⟩ = some (.int .i64 p2)) (by kernel_rfl) (KP.out _ (HS.out.next BB0)) (fun hS0 => ?_)
              refine hTake (i := 0) (v := ?v0_72) rfl (by kernel_rfl) (by kernel_rfl) (by kernel_rfl) (fun _ _ _ h => h) (Or.inl ⟨by rfl, ?hy0_72⟩) hS0 ?rest0_72
              case hy0_72 =>
                intro W hSw
                (try dsimp only at hSw)
                go_simp
                first | done | (with_reducible rfl)
              try simp only [Act.put, List.setIfInBounds_toArray, List.set_cons_zero, List.set_cons_succ]
              refine hTake (i := 1) (v := ?v1_73) rfl (by kernel_rfl) (by kernel_rfl) (by kernel_rfl) (fun _ _ _ h => h) (Or.inl ⟨by rfl, ?hy1_73⟩) hS0 ?rest1_73
              case hy1_73 =>
                intro W hSw
                (try dsimp only at hSw)
                go_simp
                first | done | (with_reducible rfl)
              try simp only [Act.put, List.setIfInBounds_toArray, List.set_cons_zero, List.set_cons_succ]
              refine hTake (i := 2) (v := ?v2_74) rfl (by kernel_rfl) (by kernel_rfl) (by kernel_rfl) (fun _ _ _ h => h) (Or.inl ⟨by rfl, ?hy2_74⟩) hS0 ?rest2_74
              case hy2_74 =>
                intro W hSw
                (try dsimp only at hSw)
                go_simp
                first | done | (with_reducible rfl)
              try simp only [Act.put, List.setIfInBounds_toArray, List.set_cons_zero, List.set_cons_succ]
              refine hTake (i := 3) (v := ?v3_75) rfl (by kernel_rfl) (by kernel_rfl) (by kernel_rfl) (fun _ _ _ h => h) (Or.inl ⟨by rfl, ?hy3_75⟩) hS0 ?rest3_75
              case hy3_75 =>
                intro W hSw
                (try dsimp only at hSw)
                go_simp
                first | done | (with_reducible rfl)
              try simp only [Act.put, List.setIfInBounds_toArray, List.set_cons_zero, List.set_cons_succ]
              refine hTake (i := 4) (v := ?v4_76) rfl (by kernel_rfl) (by kernel_rfl) (by kernel_rfl) (fun _ _ _ h => h) (Or.inl ⟨by rfl, ?hy4_76⟩) hS0 ?rest4_76
              case hy4_76 =>
                intro W hSw
                (try dsimp only at hSw)
                go_simp
                first | done | (with_reducible rfl)
              try simp only [Act.put, List.setIfInBounds_toArray, List.set_cons_zero, List.set_cons_succ]
              refine hTake (i := 5) (v := ?v5_77) rfl (by kernel_rfl) (by kernel_rfl) (by kernel_rfl) (fun _ _ _ h => h) (Or.inl ⟨by rfl, ?hy5_77⟩) hS0 ?rest5_77
              case hy5_77 =>
                intro W hSw
                (try dsimp only at hSw)
                go_simp
                first | done | (with_reducible rfl)
              try simp only [Act.put, List.setIfInBounds_toArray, List.set_cons_zero, List.set_cons_succ]
              refine hTake (i := 6) (v := ?v6_78) rfl (by kernel_rfl) (by kernel_rfl) (by kernel_rfl) (fun _ _ _ h => h) (Or.inl ⟨by rfl, ?hy6_78⟩) hS0 ?rest6_78
              case hy6_78 =>
                intro W hSw
                (try dsimp only at hSw)
                go_simp
                first | done | (with_reducible rfl)
              try simp only [Act.put, List.setIfInBounds_toArray, List.set_cons_zero, List.set_cons_succ]
              refine hTake (i := 7) (v := ?v7_79) rfl (by kernel_rfl) (by kernel_rfl) (by kernel_rfl) (fun _ _ _ h => h) (Or.inl ⟨by rfl, ?hy7_79⟩) hS0 ?rest7_79
              case hy7_79 =>
                intro W hSw
                (try dsimp only at hSw)
                go_simp
                first | done | (with_reducible rfl)
              try simp only [Act.put, List.setIfInBounds_toArray, List.set_cons_zero, List.set_cons_succ]
              refine hTake (i := 8) (v := ?v8_80) rfl (by kernel_rfl) (by kernel_rfl) (by kernel_rfl) (fun _ _ _ h => h) (Or.inl ⟨by rfl, ?hy8_80⟩) hS0 ?rest8_80
              case hy8_80 =>
                intro W hSw
                (try dsimp only at hSw)
                go_simp
                first | done | (with_reducible rfl)
              try simp only [Act.put, List.setIfInBounds_toArray, List.set_cons_zero, List.set_cons_succ]
              refine hTake (i := 10) (v := ?v10_81) rfl (by kernel_rfl) (by kernel_rfl) (by kernel_rfl) (fun _ _ _ h => h) (Or.inl ⟨by rfl, ?hy10_81⟩) hS0 ?rest10_81
              case hy10_81 =>
                intro W hSw
                (try dsimp only at hSw)
                go_simp
                first | done | (with_reducible rfl)
              try simp only [Act.put, List.setIfInBounds_toArray, List.set_cons_zero, List.set_cons_succ]
              refine hTake (i := 11) (v := ?v11_82) rfl (by kernel_rfl) (by kernel_rfl) (by kernel_rfl) (fun _ _ _ h => h) (Or.inl ⟨by rfl, ?hy11_82⟩) hS0 ?rest11_82
              case hy11_82 =>
                intro W hSw
                (try dsimp only at hSw)
                go_simp
                first | done | (with_reducible rfl)
              try simp only [Act.put, List.setIfInBounds_toArray, List.set_cons_zero, List.set_cons_succ]
              refine hTake (i := 12) (v := ?v12_83) rfl (by kernel_rfl) (by kernel_rfl) (by kernel_rfl) (fun _ _ _ h => h) (Or.inl ⟨by rfl, ?hy12_83⟩) hS0 ?rest12_83
              case hy12_83 =>
                intro W hSw
                (try dsimp only at hSw)
                go_simp
                first | done | (with_reducible rfl)
              try simp only [Act.put, List.setIfInBounds_toArray, List.set_cons_zero, List.set_cons_succ]
              refine wpAnyH_ready (rs := [9]) (by kernel_rfl) (by simp) ?_
              refine hStep (i := 9) rfl (fun K hK => ?_) AllReadyH.nil
              go_simp; go_at_call 12; refine (KR.out _ (HS.out.next BB0)).mono ?_; rintro e v1 ⟨rfl, hb⟩; have BB1 := Below.then BB0 hb; clear hb; try go_wp2_with fail
              refine hK.out _ _ ?_ (fun hS1 => ?_)
              · (try dsimp only); exact KP.out _ (HS.out.next BB1)
              clear hK K
              try simp only [Act.put, List.setIfInBounds_toArray, List.set_cons_zero, List.set_cons_succ]
              refine wpAnyH_ready (rs := [13]) (by kernel_rfl) (by simp) ?_
              refine hStep (i := 13) rfl (fun K hK => ?_) AllReadyH.nil
              go_simp; go_at_call 12; refine (KA.out _ (HS.out.next BB1)).mono ?_; rintro e v2 ⟨rfl, hb⟩; have BB2 := Below.then BB1 hb; clear hb; try go_wp2_with fail
              refine hK.out _ _ ?_ (fun hS2 => ?_)
              · (try dsimp only); exact KP.out _ (HS.out.next BB2)
              clear hK K
              try simp only [Act.put, List.setIfInBounds_toArray, List.set_cons_zero, List.set_cons_succ]
              refine hTake (i := 14) (v := ?v14_84) rfl (by kernel_rfl) (by kernel_rfl) (by kernel_rfl) (fun _ _ _ h => h) (Or.inl ⟨by rfl, ?hy14_84⟩) hS2 ?rest14_84
              case hy14_84 =>
                intro W hSw
                (try dsimp only at hSw)
                go_simp
                first | done | (with_reducible rfl)
              try simp only [Act.put, List.setIfInBounds_toArray, List.set_cons_zero, List.set_cons_succ]
              refine hTake (i := 15) (v := ?v15_85) rfl (by kernel_rfl) (by kernel_rfl) (by kernel_rfl) (fun _ _ _ h => h) (Or.inl ⟨by rfl, ?hy15_85⟩) hS2 ?rest15_85
              case hy15_85 =>
                intro W hSw
                (try dsimp only at hSw)
                go_simp
                first | done | (with_reducible rfl)
              try simp only [Act.put, List.setIfInBounds_toArray, List.set_cons_zero, List.set_cons_succ]
              refine hTake (i := 16) (v := ?v16_86) rfl (by kernel_rfl) (by kernel_rfl) (by kernel_rfl) (fun _ _ _ h => h) (Or.inl ⟨by rfl, ?hy16_86⟩) hS2 ?rest16_86
              case hy16_86 =>
                intro W hSw
                (try dsimp only at hSw)
                go_simp
                first | done | (with_reducible rfl)
              try simp only [Act.put, List.setIfInBounds_toArray, List.set_cons_zero, List.set_cons_succ]
              refine hTake (i := 17) (v := ?v17_87) rfl (by kernel_rfl) (by kernel_rfl) (by kernel_rfl) (fun _ _ _ h => h) (Or.inl ⟨by rfl, ?hy17_87⟩) hS2 ?rest17_87
              case hy17_87 =>
                intro W hSw
                (try dsimp only at hSw)
                go_simp
                first | done | (with_reducible rfl)
              try simp only [Act.put, List.setIfInBounds_toArray, List.set_cons_zero, List.set_cons_succ]
              refine hTake (i := 18) (v := ?v18_88) rfl (by kernel_rfl) (by kernel_rfl) (by kernel_rfl) (fun _ _ _ h => h) (Or.inl ⟨by rfl, ?hy18_88⟩) hS2 ?rest18_88
              case hy18_88 =>
                intro W hSw
                (try dsimp only at hSw)
                go_simp
                first | done | (with_reducible rfl)
              try simp only [Act.put, List.setIfInBounds_toArray, List.set_cons_zero, List.set_cons_succ]
              refine hTake (i := 19) (v := ?v19_89) rfl (by kernel_rfl) (by kernel_rfl) (by kernel_rfl) (fun _ _ _ h => h) (Or.inl ⟨by rfl, ?hy19_89⟩) hS2 ?rest19_89
              case hy19_89 =>
                intro W hSw
                (try dsimp only at hSw)
                go_simp
                first | done | (with_reducible rfl)
              try simp only [Act.put, List.setIfInBounds_toArray, List.set_cons_zero, List.set_cons_succ]
              refine hTake (i := 20) (v := ?v20_90) rfl (by kernel_rfl) (by kernel_rfl) (by kernel_rfl) (fun _ _ _ h => h) (Or.inl ⟨by rfl, ?hy20_90⟩) hS2 ?rest20_90
              case hy20_90 =>
                intro W hSw
                (try dsimp only at hSw)
                go_simp
                first | done | (with_reducible rfl)
              try simp only [Act.put, List.setIfInBounds_toArray, List.set_cons_zero, List.set_cons_succ]
              refine hTake (i := 21) (v := ?v21_91) rfl (by kernel_rfl) (by kernel_rfl) (by kernel_rfl) (fun _ _ _ h => h) (Or.inl ⟨by rfl, ?hy21_91⟩) hS2 ?rest21_91
              case hy21_91 =>
                intro W hSw
                (try dsimp only at hSw)
                go_simp
                first | done | (with_reducible rfl)
              try simp only [Act.put, List.setIfInBounds_toArray, List.set_cons_zero, List.set_cons_succ]
              refine hTake (i := 22) (v := ?v22_92) rfl (by kernel_rfl) (by kernel_rfl) (by kernel_rfl) (fun _ _ _ h => h) (Or.inl ⟨by rfl, ?hy22_92⟩) hS2 ?rest22_92
              case hy22_92 =>
                intro W hSw
                (try dsimp only at hSw)
                go_simp
                first | done | (with_reducible rfl)
              try simp only [Act.put, List.setIfInBounds_toArray, List.set_cons_zero, List.set_cons_succ]
              refine hTake (i := 24) (v := ?v24_93) rfl (by kernel_rfl) (by kernel_rfl) (by kernel_rfl) (fun _ _ _ h => h) (Or.inl ⟨by rfl, ?hy24_93⟩) hS2 ?rest24_93
              case hy24_93 =>
                intro W hSw
                (try dsimp only at hSw)
                go_simp
                first | done | (with_reducible rfl)
              try simp only [Act.put, List.setIfInBounds_toArray, List.set_cons_zero, List.set_cons_succ]
              refine hTake (i := 25) (v := ?v25_94) rfl (by kernel_rfl) (by kernel_rfl) (by kernel_rfl) (fun _ _ _ h => h) (Or.inl ⟨by rfl, ?hy25_94⟩) hS2 ?rest25_94
              case hy25_94 =>
                intro W hSw
                (try dsimp only at hSw)
                go_simp
                first | done | (with_reducible rfl)
              try simp only [Act.put, List.setIfInBounds_toArray, List.set_cons_zero, List.set_cons_succ]
              refine hTake (i := 26) (v := ?v26_95) rfl (by kernel_rfl) (by kernel_rfl) (by kernel_rfl) (fun _ _ _ h => h) (Or.inl ⟨by rfl, ?hy26_95⟩) hS2 ?rest26_95
              case hy26_95 =>
                intro W hSw
                (try dsimp only at hSw)
                go_simp
                first | done | (with_reducible rfl)
              try simp only [Act.put, List.setIfInBounds_toArray, List.set_cons_zero, List.set_cons_succ]
              refine wpAnyH_ready (rs := [23]) (by kernel_rfl) (by simp) ?_
              refine hStep (i := 23) rfl (fun K hK => ?_) AllReadyH.nil
              go_simp; go_at_call 12; refine (KA.out _ (HS.out.next BB2)).mono ?_; rintro e v3 ⟨rfl, hb⟩; have BB3 := Below.then BB2 hb; clear hb; try go_wp2_with fail
              refine hK.out _ _ ?_ (fun hS3 => ?_)
              · (try dsimp only); exact KP.out _ (HS.out.next BB3)
              clear hK K
              try simp only [Act.put, List.setIfInBounds_toArray, List.set_cons_zero, List.set_cons_succ]
              refine wpAnyH_ready (rs := [27]) (by kernel_rfl) (by simp) ?_
              refine hStep (i := 27) rfl (fun K hK => ?_) AllReadyH.nil
              go_simp; go_at_call 12; refine (KC.out _ (HS.out.next BB3)).mono ?_; rintro e v4 ⟨rfl, hb⟩; have BB4 := Below.then BB3 hb; clear hb; try go_wp2_with fail
              refine hK.out _ _ ?_ (fun hS4 => ?_)
              · (try dsimp only); exact KP.out _ (HS.out.next BB4)
              clear hK K
              try simp only [Act.put, List.setIfInBounds_toArray, List.set_cons_zero, List.set_cons_succ]
              refine hTake (i := 28) (v := ?v28_96) rfl (by kernel_rfl) (by kernel_rfl) (by kernel_rfl) (fun _ _ _ h => h) (Or.inl ⟨by rfl, ?hy28_96⟩) hS4 ?rest28_96
              case hy28_96 =>
                intro W hSw
                (try dsimp only at hSw)
                go_simp
                first | done | (with_reducible rfl)
              try simp only [Act.put, List.setIfInBounds_toArray, List.set_cons_zero, List.set_cons_succ]
              refine hTake (i := 29) (v := ?v29_97) rfl (by kernel_rfl) (by kernel_rfl) (by kernel_rfl) (fun _ _ _ h => h) (Or.inl ⟨by rfl, ?hy29_97⟩) hS4 ?rest29_97
              case hy29_97 =>
                intro W hSw
                (try dsimp only at hSw)
                go_simp
                first | done | (with_reducible rfl)
              try simp only [Act.put, List.setIfInBounds_toArray, List.set_cons_zero, List.set_cons_succ]
              refine hTake (i := 30) (v := ?v30_98) rfl (by kernel_rfl) (by kernel_rfl) (by kernel_rfl) (fun _ _ _ h => h) (Or.inl ⟨by rfl, ?hy30_98⟩) hS4 ?rest30_98
              case hy30_98 =>
                intro W hSw
                (try dsimp only at hSw)
                go_simp
                first | done | (with_reducible rfl)
              try simp only [Act.put, List.setIfInBounds_toArray, List.set_cons_zero, List.set_cons_succ]
              refine hTake (i := 31) (v := ?v31_99) rfl (by kernel_rfl) (by kernel_rfl) (by kernel_rfl) (fun _ _ _ h => h) (Or.inl ⟨by rfl, ?hy31_99⟩) hS4 ?rest31_99
              case hy31_99 =>
                intro W hSw
                (try dsimp only at hSw)
                go_simp
                first | done | (with_reducible rfl)
              try simp only [Act.put, List.setIfInBounds_toArray, List.set_cons_zero, List.set_cons_succ]
              refine hTake (i := 32) (v := ?v32_100) rfl (by kernel_rfl) (by kernel_rfl) (by kernel_rfl) (fun _ _ _ h => h) (Or.inl ⟨by rfl, ?hy32_100⟩) hS4 ?rest32_100
              case hy32_100 =>
                intro W hSw
                (try dsimp only at hSw)
                go_simp
                first | done | (with_reducible rfl)
              try simp only [Act.put, List.setIfInBounds_toArray, List.set_cons_zero, List.set_cons_succ]
              refine hTake (i := 33) (v := ?v33_101) rfl (by kernel_rfl) (by kernel_rfl) (by kernel_rfl) (fun _ _ _ h => h) (Or.inl ⟨by rfl, ?hy33_101⟩) hS4 ?rest33_101
              case hy33_101 =>
                intro W hSw
                (try dsimp only at hSw)
                go_simp
                first | done | (with_reducible rfl)
              try simp only [Act.put, List.setIfInBounds_toArray, List.set_cons_zero, List.set_cons_succ]
              refine hTake (i := 34) (v := ?v34_102) rfl (by kernel_rfl) (by kernel_rfl) (by kernel_rfl) (fun _ _ _ h => h) (Or.inl ⟨by rfl, ?hy34_102⟩) hS4 ?rest34_102
              case hy34_102 =>
                intro W hSw
                (try dsimp only at hSw)
                go_simp
                first | done | (with_reducible rfl)
              try simp only [Act.put, List.setIfInBounds_toArray, List.set_cons_zero, List.set_cons_succ]
              refine hTake (i := 36) (v := ?v36_103) rfl (by kernel_rfl) (by kernel_rfl) (by kernel_rfl) (fun _ _ _ h => h) (Or.inl ⟨by rfl, ?hy36_103⟩) hS4 ?rest36_103
              case hy36_103 =>
                intro W hSw
                (try dsimp only at hSw)
                go_simp
                first | done | (with_reducible rfl)
              try simp only [Act.put, List.setIfInBounds_toArray, List.set_cons_zero, List.set_cons_succ]
              refine hTake (i := 37) (v := ?v37_104) rfl (by kernel_rfl) (by kernel_rfl) (by kernel_rfl) (fun _ _ _ h => h) (Or.inl ⟨by rfl, ?hy37_104⟩) hS4 ?rest37_104
              case hy37_104 =>
                intro W hSw
                (try dsimp only at hSw)
                go_simp
                first | done | (with_reducible rfl)
              try simp only [Act.put, List.setIfInBounds_toArray, List.set_cons_zero, List.set_cons_succ]
              refine hTake (i := 38) (v := ?v38_105) rfl (by kernel_rfl) (by kernel_rfl) (by kernel_rfl) (fun _ _ _ h => h) (Or.inl ⟨by rfl, ?hy38_105⟩) hS4 ?rest38_105
              case hy38_105 =>
                intro W hSw
                (try dsimp only at hSw)
                go_simp
                first | done | (with_reducible rfl)
              try simp only [Act.put, List.setIfInBounds_toArray, List.set_cons_zero, List.set_cons_succ]
              refine wpAnyH_ready (rs := [35]) (by kernel_rfl) (by simp) ?_
              refine hStep (i := 35) rfl (fun K hK => ?_) AllReadyH.nil
              go_simp; go_at_call 12; refine (KU.out _ (HS.out.next BB4)).mono ?_; rintro e v5 ⟨rfl, hb⟩; have BB5 := Below.then BB4 hb; clear hb; try go_wp2_with fail
              refine hK.out _ _ ?_ (fun hS5 => ?_)
              · (try dsimp only); exact KP.out _ (HS.out.next BB5)
              clear hK K
              try simp only [Act.put, List.setIfInBounds_toArray, List.set_cons_zero, List.set_cons_succ]
              refine wpAnyH_ready (rs := [39]) (by kernel_rfl) (by simp) ?_
              refine hStep (i := 39) rfl (fun K hK => ?_) AllReadyH.nil
              go_simp; go_at_call 12; refine (KC.out _ (HS.out.next BB5)).mono ?_; rintro e v6 ⟨rfl, hb⟩; have BB6 := Below.then BB5 hb; clear hb; try go_wp2_with fail
              refine hK.out _ _ ?_ (fun hS6 => ?_)
              · (try dsimp only); exact KP.out _ (HS.out.next BB6)
              clear hK K
              try simp only [Act.put, List.setIfInBounds_toArray, List.set_cons_zero, List.set_cons_succ]
              refine hTake (i := 40) (v := ?v40_106) rfl (by kernel_rfl) (by kernel_rfl) (by kernel_rfl) (fun _ _ _ h => h) (Or.inl ⟨by rfl, ?hy40_106⟩) hS6 ?rest40_106
              case hy40_106 =>
                intro W hSw
                (try dsimp only at hSw)
                go_simp
                first | done | (with_reducible rfl)
              try simp only [Act.put, List.setIfInBounds_toArray, List.set_cons_zero, List.set_cons_succ]
              refine hTake (i := 41) (v := ?v41_107) rfl (by kernel_rfl) (by kernel_rfl) (by kernel_rfl) (fun _ _ _ h => h) (Or.inl ⟨by rfl, ?hy41_107⟩) hS6 ?rest41_107
              case hy41_107 =>
                intro W hSw
                (try dsimp only at hSw)
                go_simp
                first | done | (with_reducible rfl)
              try simp only [Act.put, List.setIfInBounds_toArray, List.set_cons_zero, List.set_cons_succ]
              refine wpAnyH_done (by kernel_rfl) ?_ _
              have HSn := Lib.hid (HS.out.next BB6)
              clear hS0 hS1 hS2 hS3 hS4 hS5 hS6 BB0 BB1 BB2 BB3 BB4 BB5 BB6 KP KR KA KC KU HS
              go_wp2
              go_roundw
              case rel => exact ⟨b + 1, by omega, by go_num, HSn⟩
              case measure => simp [intOf]; omega
            · as_aux_lemma =>
              go_wp2_with fail
              have BB0 : Below wk.heap.size wk wk.drew := (Below.refl _ _).drew
              refine wp_region_held_drew (S := fun W => W.cell? ⟨bx, 0, none⟩ = some (.int .i64 n) ∧ W.cell? ⟨bx, 1, none⟩ = some (.slice Y n cy) ∧ W.cell? ⟨bu, 0, none⟩ = some (.int .i64 n) ∧ W.cell? ⟨bu, 1, none⟩ = some (.slice U n cu) ∧ W.cell? ⟨br, 0, none⟩ = some (.int .i64 n) ∧ W.cell? ⟨br, 1, none⟩ = some (.slice R n cr) ∧ W.cell? ⟨og, oo + a, none⟩ = some (.int .i64 p) ∧ W.cell? ⟨og, oo + b, none⟩ = some (.int .i64 p2)) (by kernel_rfl) (KP.out _ (HS.out.next BB0)) (fun hS0 => ?_)
              refine hTake (i := 0) (v := ?v0_108) rfl (by kernel_rfl) (by kernel_rfl) (by kernel_rfl) (fun _ _ _ h => h) (Or.inl ⟨by rfl, ?hy0_108⟩) hS0 ?rest0_108
              case hy0_108 =>
                intro W hSw
                (try dsimp only at hSw)
                go_simp
                first | done | (with_reducible rfl)
              try simp only [Act.put, List.setIfInBounds_toArray, List.set_cons_zero, List.set_cons_succ]
              refine hTake (i := 1) (v := ?v1_109) rfl (by kernel_rfl) (by kernel_rfl) (by kernel_rfl) (fun _ _ _ h => h) (Or.inl ⟨by rfl, ?hy1_109⟩) hS0 ?rest1_109
              case hy1_109 =>
                intro W hSw
                (try dsimp only at hSw)
                go_simp
                first | done | (with_reducible rfl)
              try simp only [Act.put, List.setIfInBounds_toArray, List.set_cons_zero, List.set_cons_succ]
              refine hTake (i := 2) (v := ?v2_110) rfl (by kernel_rfl) (by kernel_rfl) (by kernel_rfl) (fun _ _ _ h => h) (Or.inl ⟨by rfl, ?hy2_110⟩) hS0 ?rest2_110
              case hy2_110 =>
                intro W hSw
                (try dsimp only at hSw)
                go_simp
                first | done | (with_reducible rfl)
              try simp only [Act.put, List.setIfInBounds_toArray, List.set_cons_zero, List.set_cons_succ]
              refine hTake (i := 3) (v := ?v3_111) rfl (by kernel_rfl) (by kernel_rfl) (by kernel_rfl) (fun _ _ _ h => h) (Or.inl ⟨by rfl, ?hy3_111⟩) hS0 ?rest3_111
              case hy3_111 =>
                intro W hSw
                (try dsimp only at hSw)
                go_simp
                first | done | (with_reducible rfl)
              try simp only [Act.put, List.setIfInBounds_toArray, List.set_cons_zero, List.set_cons_succ]
              refine hTake (i := 4) (v := ?v4_112) rfl (by kernel_rfl) (by kernel_rfl) (by kernel_rfl) (fun _ _ _ h => h) (Or.inl ⟨by rfl, ?hy4_112⟩) hS0 ?rest4_112
              case hy4_112 =>
                intro W hSw
                (try dsimp only at hSw)
                go_simp
                first | done | (with_reducible rfl)
              try simp only [Act.put, List.setIfInBounds_toArray, List.set_cons_zero, List.set_cons_succ]
              refine hTake (i := 5) (v := ?v5_113) rfl (by kernel_rfl) (by kernel_rfl) (by kernel_rfl) (fun _ _ _ h => h) (Or.inl ⟨by rfl, ?hy5_113⟩) hS0 ?rest5_113
              case hy5_113 =>
                intro W hSw
                (try dsimp only at hSw)
                go_simp
                first | done | (with_reducible rfl)
              try simp only [Act.put, List.setIfInBounds_toArray, List.set_cons_zero, List.set_cons_succ]
              refine hTake (i := 6) (v := ?v6_114) rfl (by kernel_rfl) (by kernel_rfl) (by kernel_rfl) (fun _ _ _ h => h) (Or.inl ⟨by rfl, ?hy6_114⟩) hS0 ?rest6_114
              case hy6_114 =>
                intro W hSw
                (try dsimp only at hSw)
                go_simp
                first | done | (with_reducible rfl)
              try simp only [Act.put, List.setIfInBounds_toArray, List.set_cons_zero, List.set_cons_succ]
              refine hTake (i := 7) (v := ?v7_115) rfl (by kernel_rfl) (by kernel_rfl) (by kernel_rfl) (fun _ _ _ h => h) (Or.inl ⟨by rfl, ?hy7_115⟩) hS0 ?rest7_115
              case hy7_115 =>
                intro W hSw
                (try dsimp only at hSw)
                go_simp
                first | done | (with_reducible rfl)
              try simp only [Act.put, List.setIfInBounds_toArray, List.set_cons_zero, List.set_cons_succ]
              refine hTake (i := 8) (v := ?v8_116) rfl (by kernel_rfl) (by kernel_rfl) (by kernel_rfl) (fun _ _ _ h => h) (Or.inl ⟨by rfl, ?hy8_116⟩) hS0 ?rest8_116
              case hy8_116 =>
                intro W hSw
                (try dsimp only at hSw)
                go_simp
                first | done | (with_reducible rfl)
              try simp only [Act.put, List.setIfInBounds_toArray, List.set_cons_zero, List.set_cons_succ]
              refine hTake (i := 10) (v := ?v10_117) rfl (by kernel_rfl) (by kernel_rfl) (by kernel_rfl) (fun _ _ _ h => h) (Or.inl ⟨by rfl, ?hy10_117⟩) hS0 ?rest10_117
              case hy10_117 =>
                intro W hSw
                (try dsimp only at hSw)
                go_simp
                first | done | (with_reducible rfl)
              try simp only [Act.put, List.setIfInBounds_toArray, List.set_cons_zero, List.set_cons_succ]
              refine hTake (i := 11) (v := ?v11_118) rfl (by kernel_rfl) (by kernel_rfl) (by kernel_rfl) (fun _ _ _ h => h) (Or.inl ⟨by rfl, ?hy11_118⟩) hS0 ?rest11_118
              case hy11_118 =>
                intro W hSw
                (try dsimp only at hSw)
                go_simp
                first | done | (with_reducible rfl)
              try simp only [Act.put, List.setIfInBounds_toArray, List.set_cons_zero, List.set_cons_succ]
              refine hTake (i := 12) (v := ?v12_119) rfl (by kernel_rfl) (by kernel_rfl) (by kernel_rfl) (fun _ _ _ h => h) (Or.inl ⟨by rfl, ?hy12_119⟩) hS0 ?rest12_119
              case hy12_119 =>
                intro W hSw
                (try dsimp only at hSw)
                go_simp
                first | done | (with_reducible rfl)
              try simp only [Act.put, List.setIfInBounds_toArray, List.set_cons_zero, List.set_cons_succ]
              refine wpAnyH_ready (rs := [9]) (by kernel_rfl) (by simp) ?_
              refine hStep (i := 9) rfl (fun K hK => ?_) AllReadyH.nil
              go_simp; go_at_call 12; refine (KR.out _ (HS.out.next BB0)).mono ?_; rintro e v1 ⟨rfl, hb⟩; have BB1 := Below.then BB0 hb; clear hb; try go_wp2_with fail
              refine hK.out _ _ ?_ (fun hS1 => ?_)
              · (try dsimp only); exact KP.out _ (HS.out.next BB1)
              clear hK K
              try simp only [Act.put, List.setIfInBounds_toArray, List.set_cons_zero, List.set_cons_succ]
              refine wpAnyH_ready (rs := [13]) (by kernel_rfl) (by simp) ?_
              refine hStep (i := 13) rfl (fun K hK => ?_) AllReadyH.nil
              go_simp; go_at_call 12; refine (KA.out _ (HS.out.next BB1)).mono ?_; rintro e v2 ⟨rfl, hb⟩; have BB2 := Below.then BB1 hb; clear hb; try go_wp2_with fail
              refine hK.out _ _ ?_ (fun hS2 => ?_)
              · (try dsimp only); exact KP.out _ (HS.out.next BB2)
              clear hK K
              try simp only [Act.put, List.setIfInBounds_toArray, List.set_cons_zero, List.set_cons_succ]
              refine hTake (i := 14) (v := ?v14_120) rfl (by kernel_rfl) (by kernel_rfl) (by kernel_rfl) (fun _ _ _ h => h) (Or.inl ⟨by rfl, ?hy14_120⟩) hS2 ?rest14_120
              case hy14_120 =>
                intro W hSw
                (try dsimp only at hSw)
                go_simp
                first | done | (with_reducible rfl)
              try simp only [Act.put, List.setIfInBounds_toArray, List.set_cons_zero, List.set_cons_succ]
              refine hTake (i := 15) (v := ?v15_121) rfl (by kernel_rfl) (by kernel_rfl) (by kernel_rfl) (fun _ _ _ h => h) (Or.inl ⟨by rfl, ?hy15_121⟩) hS2 ?rest15_121
              case hy15_121 =>
                intro W hSw
                (try dsimp only at hSw)
                go_simp
                first | done | (with_reducible rfl)
              try simp only [Act.put, List.setIfInBounds_toArray, List.set_cons_zero, List.set_cons_succ]
              refine hTake (i := 16) (v := ?v16_122) rfl (by kernel_rfl) (by kernel_rfl) (by kernel_rfl) (fun _ _ _ h => h) (Or.inl ⟨by rfl, ?hy16_122⟩) hS2 ?rest16_122
              case hy16_122 =>
                intro W hSw
                (try dsimp only at hSw)
                go_simp
                first | done | (with_reducible rfl)
              try simp only [Act.put, List.setIfInBounds_toArray, List.set_cons_zero, List.set_cons_succ]
              refine hTake (i := 17) (v := ?v17_123) rfl (by kernel_rfl) (by kernel_rfl) (by kernel_rfl) (fun _ _ _ h => h) (Or.inl ⟨by rfl, ?hy17_123⟩) hS2 ?rest17_123
              case hy17_123 =>
                intro W hSw
                (try dsimp only at hSw)
                go_simp
                first | done | (with_reducible rfl)
              try simp only [Act.put, List.setIfInBounds_toArray, List.set_cons_zero, List.set_cons_succ]
              refine hTake (i := 18) (v := ?v18_124) rfl (by kernel_rfl) (by kernel_rfl) (by kernel_rfl) (fun _ _ _ h => h) (Or.inl ⟨by rfl, ?hy18_124⟩) hS2 ?rest18_124
              case hy18_124 =>
                intro W hSw
                (try dsimp only at hSw)
                go_simp
                first | done | (with_reducible rfl)
              try simp only [Act.put, List.setIfInBounds_toArray, List.set_cons_zero, List.set_cons_succ]
              refine hTake (i := 19) (v := ?v19_125) rfl (by kernel_rfl) (by kernel_rfl) (by kernel_rfl) (fun _ _ _ h => h) (Or.inl ⟨by rfl, ?hy19_125⟩) hS2 ?rest19_125
              case hy19_125 =>
                intro W hSw
                (try dsimp only at hSw)
                go_simp
                first | done | (with_reducible rfl)
              try simp only [Act.put, List.setIfInBounds_toArray, List.set_cons_zero, List.set_cons_succ]
              refine hTake (i := 20) (v := ?v20_126) rfl (by kernel_rfl) (by kernel_rfl) (by kernel_rfl) (fun _ _ _ h => h) (Or.inl ⟨by rfl, ?hy20_126⟩) hS2 ?rest20_126
              case hy20_126 =>
                intro W hSw
                (try dsimp only at hSw)
                go_simp
                first | done | (with_reducible rfl)
              try simp only [Act.put, List.setIfInBounds_toArray, List.set_cons_zero, List.set_cons_succ]
              refine hTake (i := 21) (v := ?v21_127) rfl (by kernel_rfl) (by kernel_rfl) (by kernel_rfl) (fun _ _ _ h => h) (Or.inl ⟨by rfl, ?hy21_127⟩) hS2 ?rest21_127
              case hy21_127 =>
                intro W hSw
                (try dsimp only at hSw)
                go_simp
                first | done | (with_reducible rfl)
              try simp only [Act.put, List.setIfInBounds_toArray, List.set_cons_zero, List.set_cons_succ]
              refine hTake (i := 22) (v := ?v22_128) rfl (by kernel_rfl) (by kernel_rfl) (by kernel_rfl) (fun _ _ _ h => h) (Or.inl ⟨by rfl, ?hy22_128⟩) hS2 ?rest22_128
              case hy22_128 =>
                intro W hSw
                (try dsimp only at hSw)
                go_simp
                first | done | (with_reducible rfl)
              try simp only [Act.put, List.setIfInBounds_toArray, List.set_cons_zero, List.set_cons_succ]
              refine hTake (i := 24) (v := ?v24_129) rfl (by kernel_rfl) (by kernel_rfl) (by kernel_rfl) (fun _ _ _ h => h) (Or.inl ⟨by rfl, ?hy24_129⟩) hS2 ?rest24_129
              case hy24_129 =>
                intro W hSw
                (try dsimp only at hSw)
                go_simp
                first | done | (with_reducible rfl)
              try simp only [Act.put, List.setIfInBounds_toArray, List.set_cons_zero, List.set_cons_succ]
              refine hTake (i := 25) (v := ?v25_130) rfl (by kernel_rfl) (by kernel_rfl) (by kernel_rfl) (fun _ _ _ h => h) (Or.inl ⟨by rfl, ?hy25_130⟩) hS2 ?rest25_130
              case hy25_130 =>
                intro W hSw
                (try dsimp only at hSw)
                go_simp
                first | done | (with_reducible rfl)
              try simp only [Act.put, List.setIfInBounds_toArray, List.set_cons_zero, List.set_cons_succ]
              refine hTake (i := 26) (v := ?v26_131) rfl (by kernel_rfl) (by kernel_rfl) (by kernel_rfl) (fun _ _ _ h => h) (Or.inl ⟨by rfl, ?hy26_131⟩) hS2 ?rest26_131
              case hy26_131 =>
                intro W hSw
                (try dsimp only at hSw)
                go_simp
                first | done | (with_reducible rfl)
              try simp only [Act.put, List.setIfInBounds_toArray, List.set_cons_zero, List.set_cons_succ]
              refine wpAnyH_ready (rs := [23]) (by kernel_rfl) (by simp) ?_
              refine hStep (i := 23) rfl (fun K hK => ?_) AllReadyH.nil
              go_simp; go_at_call 12; refine (KA.out _ (HS.out.next BB2)).mono ?_; rintro e v3 ⟨rfl, hb⟩; have BB3 := Below.then BB2 hb; clear hb; try go_wp2_with fail
              refine hK.out _ _ ?_ (fun hS3 => ?_)
              · (try dsimp only); exact KP.out _ (HS.out.next BB3)
              clear hK K
              try simp only [Act.put, List.setIfInBounds_toArray, List.set_cons_zero, List.set_cons_succ]
              refine wpAnyH_ready (rs := [27]) (by kernel_rfl) (by simp) ?_
              refine hStep (i := 27) rfl (fun K hK => ?_) AllReadyH.nil
              go_simp; go_at_call 12; refine (KC.out _ (HS.out.next BB3)).mono ?_; rintro e v4 ⟨rfl, hb⟩; have BB4 := Below.then BB3 hb; clear hb; try go_wp2_with fail
              refine hK.out _ _ ?_ (fun hS4 => ?_)
              · (try dsimp only); exact KP.out _ (HS.out.next BB4)
              clear hK K
              try simp only [Act.put, List.setIfInBounds_toArray, List.set_cons_zero, List.set_cons_succ]
              refine hTake (i := 28) (v := ?v28_132) rfl (by kernel_rfl) (by kernel_rfl) (by kernel_rfl) (fun _ _ _ h => h) (Or.inl ⟨by rfl, ?hy28_132⟩) hS4 ?rest28_132
              case hy28_132 =>
                intro W hSw
                (try dsimp only at hSw)
                go_simp
                first | done | (with_reducible rfl)
              try simp only [Act.put, List.setIfInBounds_toArray, List.set_cons_zero, List.set_cons_succ]
              refine hTake (i := 29) (v := ?v29_133) rfl (by kernel_rfl) (by kernel_rfl) (by kernel_rfl) (fun _ _ _ h => h) (Or.inl ⟨by rfl, ?hy29_133⟩) hS4 ?rest29_133
              case hy29_133 =>
                intro W hSw
                (try dsimp only at hSw)
                go_simp
                first | done | (with_reducible rfl)
              try simp only [Act.put, List.setIfInBounds_toArray, List.set_cons_zero, List.set_cons_succ]
              refine hTake (i := 30) (v := ?v30_134) rfl (by kernel_rfl) (by kernel_rfl) (by kernel_rfl) (fun _ _ _ h => h) (Or.inl ⟨by rfl, ?hy30_134⟩) hS4 ?rest30_134
              case hy30_134 =>
                intro W hSw
                (try dsimp only at hSw)
                go_simp
                first | done | (with_reducible rfl)
              try simp only [Act.put, List.setIfInBounds_toArray, List.set_cons_zero, List.set_cons_succ]
              refine hTake (i := 31) (v := ?v31_135) rfl (by kernel_rfl) (by kernel_rfl) (by kernel_rfl) (fun _ _ _ h => h) (Or.inl ⟨by rfl, ?hy31_135⟩) hS4 ?rest31_135
              case hy31_135 =>
                intro W hSw
                (try dsimp only at hSw)
                go_simp
                first | done | (with_reducible rfl)
              try simp only [Act.put, List.setIfInBounds_toArray, List.set_cons_zero, List.set_cons_succ]
              refine hTake (i := 32) (v := ?v32_136) rfl (by kernel_rfl) (by kernel_rfl) (by kernel_rfl) (fun _ _ _ h => h) (Or.inl ⟨by rfl, ?hy32_136⟩) hS4 ?rest32_136
              case hy32_136 =>
                intro W hSw
                (try dsimp only at hSw)
                go_simp
                first | done | (with_reducible rfl)
              try simp only [Act.put, List.setIfInBounds_toArray, List.set_cons_zero, List.set_cons_succ]
              refine hTake (i := 33) (v := ?v33_137) rfl (by kernel_rfl) (by kernel_rfl) (by kernel_rfl) (fun _ _ _ h => h) (Or.inl ⟨by rfl, ?hy33_137⟩) hS4 ?rest33_137
              case hy33_137 =>
                intro W hSw
                (try dsimp only at hSw)
                go_simp
                first | done | (with_reducible rfl)
              try simp only [Act.put, List.setIfInBounds_toArray, List.set_cons_zero, List.set_cons_succ]
              refine hTake (i := 34) (v := ?v34_138) rfl (by kernel_rfl) (by kernel_rfl) (by kernel_rfl) (fun _ _ _ h => h) (Or.inl ⟨by rfl, ?hy34_138⟩) hS4 ?rest34_138
              case hy34_138 =>
                intro W hSw
                (try dsimp only at hSw)
                go_simp
                first | done | (with_reducible rfl)
              try simp only [Act.put, List.setIfInBounds_toArray, List.set_cons_zero, List.set_cons_succ]
              refine hTake (i := 36) (v := ?v36_139) rfl (by kernel_rfl) (by kernel_rfl) (by kernel_rfl) (fun _ _ _ h => h) (Or.inl ⟨by rfl, ?hy36_139⟩) hS4 ?rest36_139
              case hy36_139 =>
                intro W hSw
                (try dsimp only at hSw)
                go_simp
                first | done | (with_reducible rfl)
              try simp only [Act.put, List.setIfInBounds_toArray, List.set_cons_zero, List.set_cons_succ]
              refine hTake (i := 37) (v := ?v37_140) rfl (by kernel_rfl) (by kernel_rfl) (by kernel_rfl) (fun _ _ _ h => h) (Or.inl ⟨by rfl, ?hy37_140⟩) hS4 ?rest37_140
              case hy37_140 =>
                intro W hSw
                (try dsimp only at hSw)
                go_simp
                first | done | (with_reducible rfl)
              try simp only [Act.put, List.setIfInBounds_toArray, List.set_cons_zero, List.set_cons_succ]
              refine hTake (i := 38) (v := ?v38_141) rfl (by kernel_rfl) (by kernel_rfl) (by kernel_rfl) (fun _ _ _ h => h) (Or.inl ⟨by rfl, ?hy38_141⟩) hS4 ?rest38_141
              case hy38_141 =>
                intro W hSw
                (try dsimp only at hSw)
                go_simp
                first | done | (with_reducible rfl)
              try simp only [Act.put, List.setIfInBounds_toArray, List.set_cons_zero, List.set_cons_succ]
              refine wpAnyH_ready (rs := [35]) (by kernel_rfl) (by simp) ?_
              refine hStep (i := 35) rfl (fun K hK => ?_) AllReadyH.nil
              go_simp; go_at_call 12; refine (KU.out _ (HS.out.next BB4)).mono ?_; rintro e v5 ⟨rfl, hb⟩; have BB5 := Below.then BB4 hb; clear hb; try go_wp2_with fail
              refine hK.out _ _ ?_ (fun hS5 => ?_)
              · (try dsimp only); exact KP.out _ (HS.out.next BB5)
              clear hK K
              try simp only [Act.put, List.setIfInBounds_toArray, List.set_cons_zero, List.set_cons_succ]
              refine wpAnyH_ready (rs := [39]) (by kernel_rfl) (by simp) ?_
              refine hStep (i := 39) rfl (fun K hK => ?_) AllReadyH.nil
              go_simp; go_at_call 12; refine (KC.out _ (HS.out.next BB5)).mono ?_; rintro e v6 ⟨rfl, hb⟩; have BB6 := Below.then BB5 hb; clear hb; try go_wp2_with fail
              refine hK.out _ _ ?_ (fun hS6 => ?_)
              · (try dsimp only); exact KP.out _ (HS.out.next BB6)
              clear hK K
              try simp only [Act.put, List.setIfInBounds_toArray, List.set_cons_zero, List.set_cons_succ]
              refine hTake (i := 40) (v := ?v40_142) rfl (by kernel_rfl) (by kernel_rfl) (by kernel_rfl) (fun _ _ _ h => h) (Or.inl ⟨by rfl, ?hy40_142⟩) hS6 ?rest40_142
              case hy40_142 =>
                intro W hSw
                (try dsimp only at hSw)
                go_simp
                first | done | (with_reducible rfl)
              try simp only [Act.put, List.setIfInBounds_toArray, List.set_cons_zero, List.set_cons_succ]
              refine hTake (i := 41) (v := ?v41_143) rfl (by kernel_rfl) (by kernel_rfl) (by kernel_rfl) (fun _ _ _ h => h) (Or.inl ⟨by rfl, ?hy41_143⟩) hS6 ?rest41_143
              case hy41_143 =>
                intro W hSw
                (try dsimp only at hSw)
                go_simp
                first | done | (with_reducible rfl)
              try simp only [Act.put, List.setIfInBounds_toArray, List.set_cons_zero, List.set_cons_succ]
              refine wpAnyH_done (by kernel_rfl) ?_ _
              have HSn := Lib.hid (HS.out.next BB6)
              clear hS0 hS1 hS2 hS3 hS4 hS5 hS6 BB0 BB1 BB2 BB3 BB4 BB5 BB6 KP KR KA KC KU HS
              go_wp2
              go_roundw
              case rel => exact ⟨b + 1, by omega, by go_num, HSn⟩
              case measure => simp [intOf]; omega
        · as_aux_lemma =>
          obtain rfl : n = b := by omega
          go_wp2
          go_roundw
          case rel => exact ⟨a + 1, by omega, by go_num, HS⟩
          case measure => simp [intOf]; omega
      -- light
    · as_aux_lemma =>
      obtain rfl : n = a := by omega
      have y0 := HS.out.t.1.1
      have y1 := HS.out.t.1.2
      go_wp2_with fail
      refine (cFormat HP.out HS.out.t.2).mono ?_
      rintro e w20 ⟨rfl, hb⟩
      have HS20 := Lib.hid (HS.out.next hb)
      clear hb HS y0 y1
      go_wp2_with fail
      refine (cParse HP.out w20).mono ?_
      rintro e w21 ⟨X, cx, rfl, ho, hb⟩
      have bb := below_alloc1 w21 (.cells #[.int .i64 n, .slice X n cx] 25)
      obtain ⟨bX, hbX⟩ : ∃ bX, bX = w21.heap.size := ⟨_, rfl⟩
      have HX22 : Hid (TuB (w21.alloc (.cells #[.int .i64 n, .slice X n cx] 25)) bX n X cx xs) := Lib.hid (by rw [hbX]; exact TuB.new ho.rd _)
      have HS22 := Lib.hid ((HS20.out.next hb).next bb)
      clear ho hb bb HS20
      have y0 := HS22.out.t.1.1
      have y1 := HS22.out.t.1.2
      go_wp2_with fail
      rw [← hbX]
      generalize w21.alloc (.cells #[.int .i64 n, .slice X n cx] 25) = w22 at *
      clear hbX
      refine (cSameT HP.out HX22.out.2 HP.out HS22.out.t.2).mono ?_
      rintro e w23 ⟨rfl, hb⟩
      rw [decide_eq_true (rfl : xs = xs)]
      have HS23 := Lib.hid (HS22.out.next hb)
      clear hb HS22 HX22 y0 y1
      obtain ⟨P, F, hshl2, p1, hF0, hFP, hF8⟩ := tu_pow hn1 hn7
      have HFP := Lib.hid hFP
      have hmin : min n 64 = n := Nat.min_eq_left (by omega)
      clear hFP
      have KN : Hid (∀ W, TUq w W n xs ns bx bu br Y U R cy cu cr (some ⟨og, oo, none⟩) oc (some ⟨sg, so, none⟩) sc (some ⟨qg, qo, none⟩) qc → BytesV W W.heap.size (.slice A0 k0 c0)) := Lib.hid fun W h => (HV.out.keep (fun p hp => h.below.cell hp)).mono h.below.size
      have KQ : Hid (∀ W, Below w23.heap.size w23 W → (W.cell? ⟨bx, 0, none⟩ = some (.int .i64 n) ∧ W.cell? ⟨bx, 1, none⟩ = some (.slice Y n cy))) := Lib.hid fun W hW => (HS23.out.next hW).t.1
      go_wp2_with fail
      have BB0 : Below w23.heap.size w23 w23.drew := (Below.refl _ _).drew
      refine wp_region_held_drew (S := fun W => W.cell? ⟨bx, 0, none⟩ = some (.int .i64 n) ∧ W.cell? ⟨bx, 1, none⟩ = some (.slice Y n cy)) (by kernel_rfl) (KQ.out _ BB0) (fun hS0 => ?_)
      refine hTake (i := 0) (v := ?v0_144) rfl (by kernel_rfl) (by kernel_rfl) (by kernel_rfl) (fun _ _ _ h => h) (Or.inl ⟨by rfl, ?hy0_144⟩) hS0 ?rest0_144
      case hy0_144 =>
        intro W hSw
        (try dsimp only at hSw)
        go_simp
        first | done | (with_reducible rfl)
      try simp only [Act.put, List.setIfInBounds_toArray, List.set_cons_zero, List.set_cons_succ]
      refine hTake (i := 2) (v := ?v2_145) rfl (by kernel_rfl) (by kernel_rfl) (by kernel_rfl) (fun _ _ _ h => h) (Or.inl ⟨by rfl, ?hy2_145⟩) hS0 ?rest2_145
      case hy2_145 =>
        intro W hSw
        (try dsimp only at hSw)
        go_simp
        first | done | (with_reducible rfl)
      try simp only [Act.put, List.setIfInBounds_toArray, List.set_cons_zero, List.set_cons_succ]
      refine hTake (i := 3) (v := ?v3_146) rfl (by kernel_rfl) (by kernel_rfl) (by kernel_rfl) (fun _ _ _ h => h) (Or.inl ⟨by rfl, ?hy3_146⟩) hS0 ?rest3_146
      case hy3_146 =>
        intro W hSw
        (try dsimp only at hSw)
        go_simp
        first | done | (with_reducible rfl)
      try simp only [Act.put, List.setIfInBounds_toArray, List.set_cons_zero, List.set_cons_succ]
      refine hTake (i := 4) (v := ?v4_147) rfl (by kernel_rfl) (by kernel_rfl) (by kernel_rfl) (fun _ _ _ h => h) (Or.inl ⟨by rfl, ?hy4_147⟩) hS0 ?rest4_147
      case hy4_147 =>
        intro W hSw
        (try dsimp only at hSw)
        go_simp
        first | done | (with_reducible rfl)
      try simp only [Act.put, List.setIfInBounds_toArray, List.set_cons_zero, List.set_cons_succ]
      refine wpAnyH_ready (rs := [1]) (by kernel_rfl) (by simp) ?_
      refine hStep (i := 1) rfl (fun K hK => ?_) AllReadyH.nil
      go_simp; go_at_call 31; refine (makeNum_any _ (.slice A0 k0 c0) 40 40 rfl (by omega) (KN.out _ (HS23.out.next BB0))).mono ?_; rintro e v1 ⟨N1, rfl, hN1, hb⟩; have BB1 := Below.then BB0 hb; clear hb; try go_wp2_with fail
      refine hK.out _ _ ?_ (fun hS1 => ?_)
      · (try dsimp only); exact KQ.out _ BB1
      clear hK K
      try simp only [Act.put, List.setIfInBounds_toArray, List.set_cons_zero, List.set_cons_succ]
      obtain ⟨r, T, ek, ek2, em2, em, hT1, hTF⟩ := tu_set N1 F hF0 hF8
      clear hN1
      refine hTake (i := 5) (v := ?v5_148) rfl (by kernel_rfl) (by kernel_rfl) (by kernel_rfl) (fun _ _ _ h => h) (Or.inl ⟨by rfl, ?hy5_148⟩) hS1 ?rest5_148
      case hy5_148 =>
        intro W hSw
        (try dsimp only at hSw)
        go_simp
        first | done | (with_reducible rfl)
      try simp only [Act.put, List.setIfInBounds_toArray, List.set_cons_zero, List.set_cons_succ]
      refine hTake (i := 6) (v := ?v6_149) rfl (by kernel_rfl) (by kernel_rfl) (by kernel_rfl) (fun _ _ _ h => h) (Or.inl ⟨by rfl, ?hy6_149⟩) hS1 ?rest6_149
      case hy6_149 =>
        intro W hSw
        (try dsimp only at hSw)
        go_simp
        first | done | (with_reducible rfl)
      try simp only [Act.put, List.setIfInBounds_toArray, List.set_cons_zero, List.set_cons_succ]
      refine hTake (i := 7) (v := ?v7_150) rfl (by kernel_rfl) (by kernel_rfl) (by kernel_rfl) (fun _ _ _ h => h) (Or.inl ⟨by rfl, ?hy7_150⟩) hS1 ?rest7_150
      case hy7_150 =>
        intro W hSw
        (try dsimp only at hSw)
        go_simp
        first | done | (with_reducible rfl)
      try simp only [Act.put, List.setIfInBounds_toArray, List.set_cons_zero, List.set_cons_succ]
      refine wpAnyH_done (by kernel_rfl) ?_ _
      have HS24 := Lib.hid (HS23.out.next BB1)
      have hTn : T < 2 ^ n := by rw [← HFP.out]; exact Nat.lt_succ_of_le hTF
      clear hS0 hS1 BB0 BB1 HS23 KQ hshl2 p1 hF0 HFP hmin ek ek2 em2 em
      have hT8 : T < 256 := Nat.lt_of_le_of_lt hTF (Nat.lt_of_le_of_lt hF8 (by decide))
      clear hTF hF8
      have y0 := HS24.out.t.1.1
      have y1 := HS24.out.t.1.2
      go_wp2_with fail
      refine (cPart n _ xs T _ HS24.out.t.2 HP.out hT1 hTn).mono ?_
      rintro e w25 ⟨PA, pc, rfl, ho, hb⟩
      have KB : Hid (∀ W, Calls Tryd.prog 33 #[.int .i64 T] W fun e w' => e = .returned (.int .i64 (memN T 8).length) ∧ W = w') := Lib.hid fun W => by
        have := lawBits_any T W hT8
        rwa [pop_mem hT8] at this
      have hm8 := memN_len T 8
      generalize (memN T 8).length = m at *
      have bb := below_alloc1 w25 (.cells #[.int .i64 m, .slice PA m pc] 25)
      obtain ⟨bp, hbp⟩ : ∃ bp, bp = w25.heap.size := ⟨_, rfl⟩
      have HX26 : Hid (TBox (w25.alloc (.cells #[.int .i64 m, .slice PA m pc] 25)) bp m (.slice PA m pc)) := Lib.hid (by rw [hbp]; exact TBox.new w25 m (.slice PA m pc) _)
      have HS26 := Lib.hid ((HS24.out.next hb).next bb)
      clear ho hb bb HS24 y0 y1
      go_wp2_with fail
      rw [← hbp]
      generalize w25.alloc (.cells #[.int .i64 m, .slice PA m pc] 25) = w26 at *
      clear hbp
      have KP : Hid (∀ W, Below w26.heap.size w26 W → (W.cell? ⟨bx, 0, none⟩ = some (.int .i64 n) ∧ W.cell? ⟨bx, 1, none⟩ = some (.slice Y n cy) ∧ W.cell? ⟨bp, 0, none⟩ = some (.int .i64 m) ∧ W.cell? ⟨bp, 1, none⟩ = some (.slice PA m pc))) := Lib.hid fun W hW => ⟨(HS26.out.next hW).t.1.1, (HS26.out.next hW).t.1.2, (HX26.out.below hW).1, (HX26.out.below hW).2⟩
      by_cases hn2 : n < 2
      · as_aux_lemma =>
        have hd2 : decide ((1 : Int) < (n : Int)) = false := by rw [decide_eq_false_iff_not]; omega
        have hd3 : decide ((n : Int) < 2) = true := by rw [decide_eq_true_eq]; omega
        have BB0 : Below w26.heap.size w26 w26.drew := (Below.refl _ _).drew
        refine wp_region_held_drew (S := fun W => W.cell? ⟨bx, 0, none⟩ = some (.int .i64 n) ∧ W.cell? ⟨bx, 1, none⟩ = some (.slice Y n cy) ∧ W.cell? ⟨bp, 0, none⟩ = some (.int .i64 m) ∧ W.cell? ⟨bp, 1, none⟩ = some (.slice PA m pc)) (by kernel_rfl) (KP.out _ BB0) (fun hS0 => ?_)
        refine hTake (i := 0) (v := ?v0_151) rfl (by kernel_rfl) (by kernel_rfl) (by kernel_rfl) (fun _ _ _ h => h) (Or.inl ⟨by rfl, ?hy0_151⟩) hS0 ?rest0_151
        case hy0_151 =>
          intro W hSw
          (try dsimp only at hSw)
          go_simp
          first | done | (with_reducible rfl)
        try simp only [Act.put, List.setIfInBounds_toArray, List.set_cons_zero, List.set_cons_succ]
        refine hTake (i := 1) (v := ?v1_152) rfl (by kernel_rfl) (by kernel_rfl) (by kernel_rfl) (fun _ _ _ h => h) (Or.inl ⟨by rfl, ?hy1_152⟩) hS0 ?rest1_152
        case hy1_152 =>
          intro W hSw
          (try dsimp only at hSw)
          go_simp
          first | done | (with_reducible rfl)
        try simp only [Act.put, List.setIfInBounds_toArray, List.set_cons_zero, List.set_cons_succ]
        refine hTake (i := 2) (v := ?v2_153) rfl (by kernel_rfl) (by kernel_rfl) (by kernel_rfl) (fun _ _ _ h => h) (Or.inl ⟨by rfl, ?hy2_153⟩) hS0 ?rest2_153
        case hy2_153 =>
          intro W hSw
          (try dsimp only at hSw)
          go_simp
          first | done | (with_reducible rfl)
        try simp only [Act.put, List.setIfInBounds_toArray, List.set_cons_zero, List.set_cons_succ]
        refine hTake (i := 3) (v := ?v3_154) rfl (by kernel_rfl) (by kernel_rfl) (by kernel_rfl) (fun _ _ _ h => h) (Or.inl ⟨by rfl, ?hy3_154⟩) hS0 ?rest3_154
        case hy3_154 =>
          intro W hSw
          (try dsimp only at hSw)
          go_simp
          first | done | (with_reducible rfl)
        try simp only [Act.put, List.setIfInBounds_toArray, List.set_cons_zero, List.set_cons_succ]
        refine hTake (i := 4) (v := ?v4_155) rfl (by kernel_rfl) (by kernel_rfl) (by kernel_rfl) (fun _ _ _ h => h) (Or.inl ⟨by rfl, ?hy4_155⟩) hS0 ?rest4_155
        case hy4_155 =>
          intro W hSw
          (try dsimp only at hSw)
          go_simp
          first | done | (with_reducible rfl)
        try simp only [Act.put, List.setIfInBounds_toArray, List.set_cons_zero, List.set_cons_succ]
        refine hTake (i := 5) (v := ?v5_156) rfl (by kernel_rfl) (by kernel_rfl) (by kernel_rfl) (fun _ _ _ h => h) (Or.inl ⟨by rfl, ?hy5_156⟩) hS0 ?rest5_156
        case hy5_156 =>
          intro W hSw
          (try dsimp only at hSw)
          go_simp
          first | done | (with_reducible rfl)
        try simp only [Act.put, List.setIfInBounds_toArray, List.set_cons_zero, List.set_cons_succ]
        refine wpAnyH_ready (rs := [6]) (by kernel_rfl) (by simp) ?_
        refine hStep (i := 6) rfl (fun K hK => ?_) AllReadyH.nil
        go_simp; go_at_call 33; refine (KB.out _).mono ?_; rintro e _ ⟨rfl, rfl⟩; try go_wp2_with fail
        refine hK.out _ _ ?_ (fun hS1 => ?_)
        · (try dsimp only); exact KP.out _ BB0
        clear hK K
        try simp only [Act.put, List.setIfInBounds_toArray, List.set_cons_zero, List.set_cons_succ]
        refine hTake (i := 7) (v := ?v7_157) rfl (by kernel_rfl) (by kernel_rfl) (by kernel_rfl) (fun _ _ _ h => h) (Or.inl ⟨by rfl, ?hy7_157⟩) hS1 ?rest7_157
        case hy7_157 =>
          intro W hSw
          (try dsimp only at hSw)
          go_simp
          first | done | (with_reducible rfl)
        try simp only [Act.put, List.setIfInBounds_toArray, List.set_cons_zero, List.set_cons_succ]
        refine hTake (i := 8) (v := ?v8_158) rfl (by kernel_rfl) (by kernel_rfl) (by kernel_rfl) (fun _ _ _ h => h) (Or.inl ⟨by rfl, ?hy8_158⟩) hS1 ?rest8_158
        case hy8_158 =>
          intro W hSw
          (try dsimp only at hSw)
          go_simp
          first | done | (with_reducible rfl)
        try simp only [Act.put, List.setIfInBounds_toArray, List.set_cons_zero, List.set_cons_succ]
        refine hTake (i := 9) (v := ?v9_159) rfl (by kernel_rfl) (by kernel_rfl) (by kernel_rfl) (fun _ _ _ h => h) (Or.inl ⟨by rfl, ?hy9_159⟩) hS1 ?rest9_159
        case hy9_159 =>
          intro W hSw
          (try dsimp only at hSw)
          go_simp
          first | done | (with_reducible rfl)
        try simp only [Act.put, List.setIfInBounds_toArray, List.set_cons_zero, List.set_cons_succ]
        refine hTake (i := 10) (v := ?v10_160) rfl (by kernel_rfl) (by kernel_rfl) (by kernel_rfl) (fun _ _ _ h => h) (Or.inl ⟨by rfl, ?hy10_160⟩) hS1 ?rest10_160
        case hy10_160 =>
          intro W hSw
          (try dsimp only at hSw)
          go_simp
          first | done | (with_reducible rfl)
        try simp only [Act.put, List.setIfInBounds_toArray, List.set_cons_zero, List.set_cons_succ]
        refine hTake (i := 11) (v := ?v11_161) rfl (by kernel_rfl) (by kernel_rfl) (by kernel_rfl) (fun _ _ _ h => h) (Or.inl ⟨by rfl, ?hy11_161⟩) hS1 ?rest11_161
        case hy11_161 =>
          intro W hSw
          (try dsimp only at hSw)
          go_simp
          first | done | (with_reducible rfl)
        try simp only [Act.put, List.setIfInBounds_toArray, List.set_cons_zero, List.set_cons_succ]
        refine hTake (i := 12) (v := ?v12_162) rfl (by kernel_rfl) (by kernel_rfl) (by kernel_rfl) (fun _ _ _ h => h) (Or.inl ⟨by rfl, ?hy12_162⟩) hS1 ?rest12_162
        case hy12_162 =>
          intro W hSw
          (try dsimp only at hSw)
          go_simp
          first | done | (with_reducible rfl)
        try simp only [Act.put, List.setIfInBounds_toArray, List.set_cons_zero, List.set_cons_succ]
        refine hSkip (i := 13) rfl (by kernel_rfl) (by kernel_rfl) (by kernel_rfl) (fun _ _ _ h => h) (by first | rfl | (simp [Region.wanted, yielded, *]; done)) hS1 ?_
        try simp only [Act.put, List.setIfInBounds_toArray, List.set_cons_zero, List.set_cons_succ]
        refine hSkip (i := 14) rfl (by kernel_rfl) (by kernel_rfl) (by kernel_rfl) (fun _ _ _ h => h) (by first | rfl | (simp [Region.wanted, yielded, *]; done)) hS1 ?_
        try simp only [Act.put, List.setIfInBounds_toArray, List.set_cons_zero, List.set_cons_succ]
        refine hSkip (i := 15) rfl (by kernel_rfl) (by kernel_rfl) (by kernel_rfl) (fun _ _ _ h => h) (by first | rfl | (simp [Region.wanted, yielded, *]; done)) hS1 ?_
        try simp only [Act.put, List.setIfInBounds_toArray, List.set_cons_zero, List.set_cons_succ]
        refine hSkip (i := 16) rfl (by kernel_rfl) (by kernel_rfl) (by kernel_rfl) (fun _ _ _ h => h) (by first | rfl | (simp [Region.wanted, yielded, *]; done)) hS1 ?_
        try simp only [Act.put, List.setIfInBounds_toArray, List.set_cons_zero, List.set_cons_succ]
        refine hSkip (i := 17) rfl (by kernel_rfl) (by kernel_rfl) (by kernel_rfl) (fun _ _ _ h => h) (by first | rfl | (simp [Region.wanted, yielded, *]; done)) hS1 ?_
        try simp only [Act.put, List.setIfInBounds_toArray, List.set_cons_zero, List.set_cons_succ]
        refine hSkip (i := 18) rfl (by kernel_rfl) (by kernel_rfl) (by kernel_rfl) (fun _ _ _ h => h) (by first | rfl | (simp [Region.wanted, yielded, *]; done)) hS1 ?_
        try simp only [Act.put, List.setIfInBounds_toArray, List.set_cons_zero, List.set_cons_succ]
        refine hSkip (i := 19) rfl (by kernel_rfl) (by kernel_rfl) (by kernel_rfl) (fun _ _ _ h => h) (by first | rfl | (simp [Region.wanted, yielded, *]; done)) hS1 ?_
        try simp only [Act.put, List.setIfInBounds_toArray, List.set_cons_zero, List.set_cons_succ]
        refine hSkip (i := 20) rfl (by kernel_rfl) (by kernel_rfl) (by kernel_rfl) (fun _ _ _ h => h) (by first | rfl | (simp [Region.wanted, yielded, *]; done)) hS1 ?_
        try simp only [Act.put, List.setIfInBounds_toArray, List.set_cons_zero, List.set_cons_succ]
        refine hSkip (i := 21) rfl (by kernel_rfl) (by kernel_rfl) (by kernel_rfl) (fun _ _ _ h => h) (by first | rfl | (simp [Region.wanted, yielded, *]; done)) hS1 ?_
        try simp only [Act.put, List.setIfInBounds_toArray, List.set_cons_zero, List.set_cons_succ]
        refine hSkip (i := 22) rfl (by kernel_rfl) (by kernel_rfl) (by kernel_rfl) (fun _ _ _ h => h) (by first | rfl | (simp [Region.wanted, yielded, *]; done)) hS1 ?_
        try simp only [Act.put, List.setIfInBounds_toArray, List.set_cons_zero, List.set_cons_succ]
        refine hTake (i := 23) (v := ?v23_173) rfl (by kernel_rfl) (by kernel_rfl) (by kernel_rfl) (fun _ _ _ h => h) (Or.inl ⟨by rfl, ?hy23_173⟩) hS1 ?rest23_173
        case hy23_173 =>
          intro W hSw
          (try dsimp only at hSw)
          go_simp
          first | done | (with_reducible rfl)
        try simp only [Act.put, List.setIfInBounds_toArray, List.set_cons_zero, List.set_cons_succ]
        refine hTake (i := 24) (v := ?v24_174) rfl (by kernel_rfl) (by kernel_rfl) (by kernel_rfl) (fun _ _ _ h => h) (Or.inl ⟨by rfl, ?hy24_174⟩) hS1 ?rest24_174
        case hy24_174 =>
          intro W hSw
          (try dsimp only at hSw)
          go_simp
          first | done | (with_reducible rfl)
        try simp only [Act.put, List.setIfInBounds_toArray, List.set_cons_zero, List.set_cons_succ]
        refine wpAnyH_done (by kernel_rfl) ?_ _
        have HSn := Lib.hid (HS26.out.next BB0)
        clear hS0 hS1 KP KB HX26 HS26
        go_wp2
        go_ret
        exact ⟨rfl, HSn.out.below⟩
      · as_aux_lemma =>
        have hd2 : decide ((1 : Int) < (n : Int)) = true := by rw [decide_eq_true_eq]; omega
        have hd3 : decide ((n : Int) < 2) = false := by rw [decide_eq_false_iff_not]; omega
        have h2n : 2 ≤ n := by omega
        obtain ⟨a1, a2, L, q1, q2, q3, q4, q5, hL⟩ := tu_len hn1 hn7 hGE
        have KF : Hid (∃ t : ByteArray, t.size = L ∧ ∀ W, TUq w W n xs ns bx bu br Y U R cy cu cr (some ⟨og, oo, none⟩) oc (some ⟨sg, so, none⟩) sc (some ⟨qg, qo, none⟩) qc → Calls Tryd.prog 24 #[.agg #[.int .i64 n, .slice Y n cy]] W fun e w' => e = .returned (.string t) ∧ Below W.heap.size W w') := Lib.hid ⟨⟨(fmL xs n).toArray⟩, by show (fmL xs n).toArray.size = L; rw [List.size_toArray, fmL_len, hL], fun W h => cFormat HP.out h.t.2⟩
        clear hL
        obtain ⟨t, htl, KF0⟩ := KF.out
        have KF := Lib.hid KF0
        clear KF0
        have BB0 : Below w26.heap.size w26 w26.drew := (Below.refl _ _).drew
        refine wp_region_held_drew (S := fun W => W.cell? ⟨bx, 0, none⟩ = some (.int .i64 n) ∧ W.cell? ⟨bx, 1, none⟩ = some (.slice Y n cy) ∧ W.cell? ⟨bp, 0, none⟩ = some (.int .i64 m) ∧ W.cell? ⟨bp, 1, none⟩ = some (.slice PA m pc)) (by kernel_rfl) (KP.out _ BB0) (fun hS0 => ?_)
        refine hTake (i := 0) (v := ?v0_175) rfl (by kernel_rfl) (by kernel_rfl) (by kernel_rfl) (fun _ _ _ h => h) (Or.inl ⟨by rfl, ?hy0_175⟩) hS0 ?rest0_175
        case hy0_175 =>
          intro W hSw
          (try dsimp only at hSw)
          go_simp
          first | done | (with_reducible rfl)
        try simp only [Act.put, List.setIfInBounds_toArray, List.set_cons_zero, List.set_cons_succ]
        refine hTake (i := 1) (v := ?v1_176) rfl (by kernel_rfl) (by kernel_rfl) (by kernel_rfl) (fun _ _ _ h => h) (Or.inl ⟨by rfl, ?hy1_176⟩) hS0 ?rest1_176
        case hy1_176 =>
          intro W hSw
          (try dsimp only at hSw)
          go_simp
          first | done | (with_reducible rfl)
        try simp only [Act.put, List.setIfInBounds_toArray, List.set_cons_zero, List.set_cons_succ]
        refine hTake (i := 2) (v := ?v2_177) rfl (by kernel_rfl) (by kernel_rfl) (by kernel_rfl) (fun _ _ _ h => h) (Or.inl ⟨by rfl, ?hy2_177⟩) hS0 ?rest2_177
        case hy2_177 =>
          intro W hSw
          (try dsimp only at hSw)
          go_simp
          first | done | (with_reducible rfl)
        try simp only [Act.put, List.setIfInBounds_toArray, List.set_cons_zero, List.set_cons_succ]
        refine hTake (i := 3) (v := ?v3_178) rfl (by kernel_rfl) (by kernel_rfl) (by kernel_rfl) (fun _ _ _ h => h) (Or.inl ⟨by rfl, ?hy3_178⟩) hS0 ?rest3_178
        case hy3_178 =>
          intro W hSw
          (try dsimp only at hSw)
          go_simp
          first | done | (with_reducible rfl)
        try simp only [Act.put, List.setIfInBounds_toArray, List.set_cons_zero, List.set_cons_succ]
        refine hTake (i := 4) (v := ?v4_179) rfl (by kernel_rfl) (by kernel_rfl) (by kernel_rfl) (fun _ _ _ h => h) (Or.inl ⟨by rfl, ?hy4_179⟩) hS0 ?rest4_179
        case hy4_179 =>
          intro W hSw
          (try dsimp only at hSw)
          go_simp
          first | done | (with_reducible rfl)
        try simp only [Act.put, List.setIfInBounds_toArray, List.set_cons_zero, List.set_cons_succ]
        refine hTake (i := 5) (v := ?v5_180) rfl (by kernel_rfl) (by kernel_rfl) (by kernel_rfl) (fun _ _ _ h => h) (Or.inl ⟨by rfl, ?hy5_180⟩) hS0 ?rest5_180
        case hy5_180 =>
          intro W hSw
          (try dsimp only at hSw)
          go_simp
          first | done | (with_reducible rfl)
        try simp only [Act.put, List.setIfInBounds_toArray, List.set_cons_zero, List.set_cons_succ]
        refine wpAnyH_ready (rs := [6]) (by kernel_rfl) (by simp) ?_
        refine hStep (i := 6) rfl (fun K hK => ?_) AllReadyH.nil
        go_simp; go_at_call 33; refine (KB.out _).mono ?_; rintro e _ ⟨rfl, rfl⟩; try go_wp2_with fail
        refine hK.out _ _ ?_ (fun hS1 => ?_)
        · (try dsimp only); exact KP.out _ BB0
        clear hK K
        try simp only [Act.put, List.setIfInBounds_toArray, List.set_cons_zero, List.set_cons_succ]
        refine hTake (i := 7) (v := ?v7_181) rfl (by kernel_rfl) (by kernel_rfl) (by kernel_rfl) (fun _ _ _ h => h) (Or.inl ⟨by rfl, ?hy7_181⟩) hS1 ?rest7_181
        case hy7_181 =>
          intro W hSw
          (try dsimp only at hSw)
          go_simp
          first | done | (with_reducible rfl)
        try simp only [Act.put, List.setIfInBounds_toArray, List.set_cons_zero, List.set_cons_succ]
        refine hTake (i := 8) (v := ?v8_182) rfl (by kernel_rfl) (by kernel_rfl) (by kernel_rfl) (fun _ _ _ h => h) (Or.inl ⟨by rfl, ?hy8_182⟩) hS1 ?rest8_182
        case hy8_182 =>
          intro W hSw
          (try dsimp only at hSw)
          go_simp
          first | done | (with_reducible rfl)
        try simp only [Act.put, List.setIfInBounds_toArray, List.set_cons_zero, List.set_cons_succ]
        refine hTake (i := 9) (v := ?v9_183) rfl (by kernel_rfl) (by kernel_rfl) (by kernel_rfl) (fun _ _ _ h => h) (Or.inl ⟨by rfl, ?hy9_183⟩) hS1 ?rest9_183
        case hy9_183 =>
          intro W hSw
          (try dsimp only at hSw)
          go_simp
          first | done | (with_reducible rfl)
        try simp only [Act.put, List.setIfInBounds_toArray, List.set_cons_zero, List.set_cons_succ]
        refine hTake (i := 10) (v := ?v10_184) rfl (by kernel_rfl) (by kernel_rfl) (by kernel_rfl) (fun _ _ _ h => h) (Or.inl ⟨by rfl, ?hy10_184⟩) hS1 ?rest10_184
        case hy10_184 =>
          intro W hSw
          (try dsimp only at hSw)
          go_simp
          first | done | (with_reducible rfl)
        try simp only [Act.put, List.setIfInBounds_toArray, List.set_cons_zero, List.set_cons_succ]
        refine hTake (i := 11) (v := ?v11_185) rfl (by kernel_rfl) (by kernel_rfl) (by kernel_rfl) (fun _ _ _ h => h) (Or.inl ⟨by rfl, ?hy11_185⟩) hS1 ?rest11_185
        case hy11_185 =>
          intro W hSw
          (try dsimp only at hSw)
          go_simp
          first | done | (with_reducible rfl)
        try simp only [Act.put, List.setIfInBounds_toArray, List.set_cons_zero, List.set_cons_succ]
        refine hTake (i := 12) (v := ?v12_186) rfl (by kernel_rfl) (by kernel_rfl) (by kernel_rfl) (fun _ _ _ h => h) (Or.inl ⟨by rfl, ?hy12_186⟩) hS1 ?rest12_186
        case hy12_186 =>
          intro W hSw
          (try dsimp only at hSw)
          go_simp
          first | done | (with_reducible rfl)
        try simp only [Act.put, List.setIfInBounds_toArray, List.set_cons_zero, List.set_cons_succ]
        refine hTake (i := 13) (v := ?v13_187) rfl (by kernel_rfl) (by kernel_rfl) (by kernel_rfl) (fun _ _ _ h => h) (Or.inl ⟨by rfl, ?hy13_187⟩) hS1 ?rest13_187
        case hy13_187 =>
          intro W hSw
          (try dsimp only at hSw)
          go_simp
          first | done | (with_reducible rfl)
        try simp only [Act.put, List.setIfInBounds_toArray, List.set_cons_zero, List.set_cons_succ]
        refine hTake (i := 16) (v := ?v16_188) rfl (by kernel_rfl) (by kernel_rfl) (by kernel_rfl) (fun _ _ _ h => h) (Or.inl ⟨by rfl, ?hy16_188⟩) hS1 ?rest16_188
        case hy16_188 =>
          intro W hSw
          (try dsimp only at hSw)
          go_simp
          first | done | (with_reducible rfl)
        try simp only [Act.put, List.setIfInBounds_toArray, List.set_cons_zero, List.set_cons_succ]
        refine hTake (i := 17) (v := ?v17_189) rfl (by kernel_rfl) (by kernel_rfl) (by kernel_rfl) (fun _ _ _ h => h) (Or.inl ⟨by rfl, ?hy17_189⟩) hS1 ?rest17_189
        case hy17_189 =>
          intro W hSw
          (try dsimp only at hSw)
          go_simp
          first | done | (with_reducible rfl)
        try simp only [Act.put, List.setIfInBounds_toArray, List.set_cons_zero, List.set_cons_succ]
        refine hTake (i := 18) (v := ?v18_190) rfl (by kernel_rfl) (by kernel_rfl) (by kernel_rfl) (fun _ _ _ h => h) (Or.inl ⟨by rfl, ?hy18_190⟩) hS1 ?rest18_190
        case hy18_190 =>
          intro W hSw
          (try dsimp only at hSw)
          go_simp
          first | done | (with_reducible rfl)
        try simp only [Act.put, List.setIfInBounds_toArray, List.set_cons_zero, List.set_cons_succ]
        refine hTake (i := 19) (v := ?v19_191) rfl (by kernel_rfl) (by kernel_rfl) (by kernel_rfl) (fun _ _ _ h => h) (Or.inl ⟨by rfl, ?hy19_191⟩) hS1 ?rest19_191
        case hy19_191 =>
          intro W hSw
          (try dsimp only at hSw)
          go_simp
          first | done | (with_reducible rfl)
        try simp only [Act.put, List.setIfInBounds_toArray, List.set_cons_zero, List.set_cons_succ]
        refine hTake (i := 20) (v := ?v20_192) rfl (by kernel_rfl) (by kernel_rfl) (by kernel_rfl) (fun _ _ _ h => h) (Or.inl ⟨by rfl, ?hy20_192⟩) hS1 ?rest20_192
        case hy20_192 =>
          intro W hSw
          (try dsimp only at hSw)
          go_simp
          first | done | (with_reducible rfl)
        try simp only [Act.put, List.setIfInBounds_toArray, List.set_cons_zero, List.set_cons_succ]
        refine hTake (i := 21) (v := ?v21_193) rfl (by kernel_rfl) (by kernel_rfl) (by kernel_rfl) (fun _ _ _ h => h) (Or.inl ⟨by rfl, ?hy21_193⟩) hS1 ?rest21_193
        case hy21_193 =>
          intro W hSw
          (try dsimp only at hSw)
          go_simp
          first | done | (with_reducible rfl)
        try simp only [Act.put, List.setIfInBounds_toArray, List.set_cons_zero, List.set_cons_succ]
        refine wpAnyH_ready (rs := [14]) (by kernel_rfl) (by simp) ?_
        refine hStep (i := 14) rfl (fun K hK => ?_) AllReadyH.nil
        go_simp; go_at_call 24; refine (KF.out _ (HS26.out.next BB0)).mono ?_; rintro e v3 ⟨rfl, hb⟩; have BB1 := Below.then BB0 hb; clear hb; try go_wp2_with fail
        refine hK.out _ _ ?_ (fun hS2 => ?_)
        · (try dsimp only); exact KP.out _ BB1
        clear hK K
        try simp only [Act.put, List.setIfInBounds_toArray, List.set_cons_zero, List.set_cons_succ]
        refine hTake (i := 15) (v := ?v15_194) rfl (by kernel_rfl) (by kernel_rfl) (by kernel_rfl) (fun _ _ _ h => h) (Or.inl ⟨by rfl, ?hy15_194⟩) hS2 ?rest15_194
        case hy15_194 =>
          intro W hSw
          (try dsimp only at hSw)
          go_simp
          first | done | (with_reducible rfl)
        try simp only [Act.put, List.setIfInBounds_toArray, List.set_cons_zero, List.set_cons_succ]
        refine hTake (i := 22) (v := ?v22_195) rfl (by kernel_rfl) (by kernel_rfl) (by kernel_rfl) (fun _ _ _ h => h) (Or.inl ⟨by rfl, ?hy22_195⟩) hS2 ?rest22_195
        case hy22_195 =>
          intro W hSw
          (try dsimp only at hSw)
          go_simp
          first | done | (with_reducible rfl)
        try simp only [Act.put, List.setIfInBounds_toArray, List.set_cons_zero, List.set_cons_succ]
        refine hTake (i := 23) (v := ?v23_196) rfl (by kernel_rfl) (by kernel_rfl) (by kernel_rfl) (fun _ _ _ h => h) (Or.inl ⟨by rfl, ?hy23_196⟩) hS2 ?rest23_196
        case hy23_196 =>
          intro W hSw
          (try dsimp only at hSw)
          go_simp
          first | done | (with_reducible rfl)
        try simp only [Act.put, List.setIfInBounds_toArray, List.set_cons_zero, List.set_cons_succ]
        refine hTake (i := 24) (v := ?v24_197) rfl (by kernel_rfl) (by kernel_rfl) (by kernel_rfl) (fun _ _ _ h => h) (Or.inl ⟨by rfl, ?hy24_197⟩) hS2 ?rest24_197
        case hy24_197 =>
          intro W hSw
          (try dsimp only at hSw)
          go_simp
          first | done | (with_reducible rfl)
        try simp only [Act.put, List.setIfInBounds_toArray, List.set_cons_zero, List.set_cons_succ]
        refine wpAnyH_done (by kernel_rfl) ?_ _
        have HSn := Lib.hid (HS26.out.next BB1)
        clear hS0 hS1 hS2 KP KB KF HX26 HS26 BB0 BB1 q1 q2 q3 q4 q5 htl hsq hG64 hGE
        go_wp2_with fail
        refine (makeNum_any v3 (.slice A0 k0 c0) 42 42 rfl (by omega) (KN.out _ HSn.out)).mono ?_
        rintro e w31 ⟨N1, rfl, -, hb⟩
        have HS31 := Lib.hid (HSn.out.next hb)
        clear hb HSn
        go_wp2_with fail
        refine (makeNum_any w31 (.slice A0 k0 c0) 44 44 rfl (by omega) (KN.out _ HS31.out)).mono ?_
        rintro e w32 ⟨N2, rfl, -, hb⟩
        have HS32 := Lib.hid (HS31.out.next hb)
        clear hb HS31
        obtain ⟨a, b, a1, r2, c, d, e1, e2, e3, e4, e5, e6, e7, -, e9, -, e11, e12, ha, hb, hab, -⟩ := tu_ab N1 N2 h2n hn7
        have y0 := HS32.out.t.1.1
        have y1 := HS32.out.t.1.2
        go_wp2_with fail
        refine (cFlipG HP.out HS32.out.t.2 a b ha hb hab).mono ?_
        rintro e w33 ⟨FA, fc, rfl, ho, hbw⟩
        have HPF := Lib.hid (flip_tourN HP.out ha hb hab)
        have bb := below_alloc1 w33 (.cells #[.int .i64 n, .slice FA n fc] 25)
        obtain ⟨bf, hbf⟩ : ∃ bf, bf = w33.heap.size := ⟨_, rfl⟩
        have HF34 : Hid (TuB (w33.alloc (.cells #[.int .i64 n, .slice FA n fc] 25)) bf n FA fc (flipL xs a b)) := Lib.hid (by rw [hbf]; exact TuB.new ho.rd _)
        have HS34 := Lib.hid ((HS32.out.next hbw).next bb)
        clear ho hbw bb HS32 y0 y1 e1 e2 e3 e4 e5 e6 e7 e9 e11 e12
        go_wp2_with fail
        rw [← hbf]
        generalize w33.alloc (.cells #[.int .i64 n, .slice FA n fc] 25) = w34 at *
        clear hbf
        have x0 := HF34.out.1.1
        have x1 := HF34.out.1.2
        go_wp2_with fail
        refine (cFlipG HPF.out HF34.out.2 b a hb ha (Ne.symm hab)).mono ?_
        rintro e w35 ⟨GA, gc, rfl, ho, hbw⟩
        rw [flip_back HP.out ha hb hab] at ho
        have bb := below_alloc1 w35 (.cells #[.int .i64 n, .slice GA n gc] 25)
        obtain ⟨bg, hbg⟩ : ∃ bg, bg = w35.heap.size := ⟨_, rfl⟩
        have HG36 : Hid (TuB (w35.alloc (.cells #[.int .i64 n, .slice GA n gc] 25)) bg n GA gc xs) := Lib.hid (by rw [hbg]; exact TuB.new ho.rd _)
        have HS36 := Lib.hid ((HS34.out.next hbw).next bb)
        have HF36 := Lib.hid ((HF34.out.below hbw).below bb)
        clear ho hbw bb HS34 HF34 x0 x1
        go_wp2_with fail
        rw [← hbg]
        generalize w35.alloc (.cells #[.int .i64 n, .slice GA n gc] 25) = w36 at *
        clear hbg
        have KP : Hid (∀ W, Below w36.heap.size w36 W → (W.cell? ⟨bx, 0, none⟩ = some (.int .i64 n) ∧ W.cell? ⟨bx, 1, none⟩ = some (.slice Y n cy) ∧ W.cell? ⟨bf, 0, none⟩ = some (.int .i64 n) ∧ W.cell? ⟨bf, 1, none⟩ = some (.slice FA n fc) ∧ W.cell? ⟨bg, 0, none⟩ = some (.int .i64 n) ∧ W.cell? ⟨bg, 1, none⟩ = some (.slice GA n gc))) := Lib.hid fun W hW => ⟨(HS36.out.next hW).t.1.1, (HS36.out.next hW).t.1.2, (HF36.out.below hW).1.1, (HF36.out.below hW).1.2, (HG36.out.below hW).1.1, (HG36.out.below hW).1.2⟩
        have K1 : Hid (∀ W, Below w36.heap.size w36 W → Calls Tryd.prog 15 #[.agg #[.int .i64 n, .slice GA n gc], .agg #[.int .i64 n, .slice Y n cy]] W fun e w' => e = .returned (.bool true) ∧ Below W.heap.size W w') := Lib.hid fun W hW => by
          have := cSameT HP.out (HG36.out.below hW).2 HP.out (HS36.out.next hW).t.2
          rwa [decide_eq_true (rfl : xs = xs)] at this
        have K2 : Hid (∀ W, Below w36.heap.size w36 W → Calls Tryd.prog 28 #[.agg #[.int .i64 n, .slice FA n fc], .agg #[.int .i64 n, .slice Y n cy]] W fun e w' => e = .returned (.int .i64 1) ∧ Below W.heap.size W w') := Lib.hid fun W hW => by
          have := cDiff HPF.out (HF36.out.below hW).2 HP.out (HS36.out.next hW).t.2
          rwa [df_flip HP.out ha hb hab] at this
        have K4 := Lib.hid (fun W (hW : Below w36.heap.size w36 W) => cBeat HP.out (HS36.out.next hW).t.2 a b ha hb)
        have K3 : Hid (∀ W, Below w36.heap.size w36 W → Calls Tryd.prog 12 #[.agg #[.int .i64 n, .slice FA n fc], .int .i64 a, .int .i64 b] W fun e w' => e = .returned (.bool (!bt xs a b)) ∧ Below W.heap.size W w') := Lib.hid fun W hW => by
          have := cBeat HPF.out (HF36.out.below hW).2 a b ha hb
          rwa [flip_btN HP.out ha hb hab ha, show ((a == a && b == b) || (a == b && b == a)) = true by simp, Bool.xor_true] at this
        generalize bt xs a b = q at *
        have hq : ((!q) != q) = true := by cases q <;> rfl
        have BB0 : Below w36.heap.size w36 w36.drew := (Below.refl _ _).drew
        refine wp_region_held_drew (S := fun W => W.cell? ⟨bx, 0, none⟩ = some (.int .i64 n) ∧ W.cell? ⟨bx, 1, none⟩ = some (.slice Y n cy) ∧ W.cell? ⟨bf, 0, none⟩ = some (.int .i64 n) ∧ W.cell? ⟨bf, 1, none⟩ = some (.slice FA n fc) ∧ W.cell? ⟨bg, 0, none⟩ = some (.int .i64 n) ∧ W.cell? ⟨bg, 1, none⟩ = some (.slice GA n gc)) (by kernel_rfl) (KP.out _ BB0) (fun hS0 => ?_)
        refine hTake (i := 0) (v := ?v0_198) rfl (by kernel_rfl) (by kernel_rfl) (by kernel_rfl) (fun _ _ _ h => h) (Or.inl ⟨by rfl, ?hy0_198⟩) hS0 ?rest0_198
        case hy0_198 =>
          intro W hSw
          (try dsimp only at hSw)
          go_simp
          first | done | (with_reducible rfl)
        try simp only [Act.put, List.setIfInBounds_toArray, List.set_cons_zero, List.set_cons_succ]
        refine hTake (i := 1) (v := ?v1_199) rfl (by kernel_rfl) (by kernel_rfl) (by kernel_rfl) (fun _ _ _ h => h) (Or.inl ⟨by rfl, ?hy1_199⟩) hS0 ?rest1_199
        case hy1_199 =>
          intro W hSw
          (try dsimp only at hSw)
          go_simp
          first | done | (with_reducible rfl)
        try simp only [Act.put, List.setIfInBounds_toArray, List.set_cons_zero, List.set_cons_succ]
        refine hTake (i := 2) (v := ?v2_200) rfl (by kernel_rfl) (by kernel_rfl) (by kernel_rfl) (fun _ _ _ h => h) (Or.inl ⟨by rfl, ?hy2_200⟩) hS0 ?rest2_200
        case hy2_200 =>
          intro W hSw
          (try dsimp only at hSw)
          go_simp
          first | done | (with_reducible rfl)
        try simp only [Act.put, List.setIfInBounds_toArray, List.set_cons_zero, List.set_cons_succ]
        refine hTake (i := 3) (v := ?v3_201) rfl (by kernel_rfl) (by kernel_rfl) (by kernel_rfl) (fun _ _ _ h => h) (Or.inl ⟨by rfl, ?hy3_201⟩) hS0 ?rest3_201
        case hy3_201 =>
          intro W hSw
          (try dsimp only at hSw)
          go_simp
          first | done | (with_reducible rfl)
        try simp only [Act.put, List.setIfInBounds_toArray, List.set_cons_zero, List.set_cons_succ]
        refine hTake (i := 4) (v := ?v4_202) rfl (by kernel_rfl) (by kernel_rfl) (by kernel_rfl) (fun _ _ _ h => h) (Or.inl ⟨by rfl, ?hy4_202⟩) hS0 ?rest4_202
        case hy4_202 =>
          intro W hSw
          (try dsimp only at hSw)
          go_simp
          first | done | (with_reducible rfl)
        try simp only [Act.put, List.setIfInBounds_toArray, List.set_cons_zero, List.set_cons_succ]
        refine hTake (i := 5) (v := ?v5_203) rfl (by kernel_rfl) (by kernel_rfl) (by kernel_rfl) (fun _ _ _ h => h) (Or.inl ⟨by rfl, ?hy5_203⟩) hS0 ?rest5_203
        case hy5_203 =>
          intro W hSw
          (try dsimp only at hSw)
          go_simp
          first | done | (with_reducible rfl)
        try simp only [Act.put, List.setIfInBounds_toArray, List.set_cons_zero, List.set_cons_succ]
        refine hTake (i := 6) (v := ?v6_204) rfl (by kernel_rfl) (by kernel_rfl) (by kernel_rfl) (fun _ _ _ h => h) (Or.inl ⟨by rfl, ?hy6_204⟩) hS0 ?rest6_204
        case hy6_204 =>
          intro W hSw
          (try dsimp only at hSw)
          go_simp
          first | done | (with_reducible rfl)
        try simp only [Act.put, List.setIfInBounds_toArray, List.set_cons_zero, List.set_cons_succ]
        refine wpAnyH_ready (rs := [7]) (by kernel_rfl) (by simp) ?_
        refine hStep (i := 7) rfl (fun K hK => ?_) AllReadyH.nil
        go_simp; go_at_call 15; refine (K1.out _ BB0).mono ?_; rintro e v1 ⟨rfl, hb⟩; have BB1 := Below.then BB0 hb; clear hb; try go_wp2_with fail
        refine hK.out _ _ ?_ (fun hS1 => ?_)
        · (try dsimp only); exact KP.out _ BB1
        clear hK K
        try simp only [Act.put, List.setIfInBounds_toArray, List.set_cons_zero, List.set_cons_succ]
        refine hTake (i := 8) (v := ?v8_205) rfl (by kernel_rfl) (by kernel_rfl) (by kernel_rfl) (fun _ _ _ h => h) (Or.inl ⟨by rfl, ?hy8_205⟩) hS1 ?rest8_205
        case hy8_205 =>
          intro W hSw
          (try dsimp only at hSw)
          go_simp
          first | done | (with_reducible rfl)
        try simp only [Act.put, List.setIfInBounds_toArray, List.set_cons_zero, List.set_cons_succ]
        refine hTake (i := 9) (v := ?v9_206) rfl (by kernel_rfl) (by kernel_rfl) (by kernel_rfl) (fun _ _ _ h => h) (Or.inl ⟨by rfl, ?hy9_206⟩) hS1 ?rest9_206
        case hy9_206 =>
          intro W hSw
          (try dsimp only at hSw)
          go_simp
          first | done | (with_reducible rfl)
        try simp only [Act.put, List.setIfInBounds_toArray, List.set_cons_zero, List.set_cons_succ]
        refine hTake (i := 10) (v := ?v10_207) rfl (by kernel_rfl) (by kernel_rfl) (by kernel_rfl) (fun _ _ _ h => h) (Or.inl ⟨by rfl, ?hy10_207⟩) hS1 ?rest10_207
        case hy10_207 =>
          intro W hSw
          (try dsimp only at hSw)
          go_simp
          first | done | (with_reducible rfl)
        try simp only [Act.put, List.setIfInBounds_toArray, List.set_cons_zero, List.set_cons_succ]
        refine hTake (i := 11) (v := ?v11_208) rfl (by kernel_rfl) (by kernel_rfl) (by kernel_rfl) (fun _ _ _ h => h) (Or.inl ⟨by rfl, ?hy11_208⟩) hS1 ?rest11_208
        case hy11_208 =>
          intro W hSw
          (try dsimp only at hSw)
          go_simp
          first | done | (with_reducible rfl)
        try simp only [Act.put, List.setIfInBounds_toArray, List.set_cons_zero, List.set_cons_succ]
        refine wpAnyH_ready (rs := [12]) (by kernel_rfl) (by simp) ?_
        refine hStep (i := 12) rfl (fun K hK => ?_) AllReadyH.nil
        go_simp; go_at_call 28; refine (K2.out _ BB1).mono ?_; rintro e v2 ⟨rfl, hb⟩; have BB2 := Below.then BB1 hb; clear hb; try go_wp2_with fail
        refine hK.out _ _ ?_ (fun hS2 => ?_)
        · (try dsimp only); exact KP.out _ BB2
        clear hK K
        try simp only [Act.put, List.setIfInBounds_toArray, List.set_cons_zero, List.set_cons_succ]
        refine hTake (i := 13) (v := ?v13_209) rfl (by kernel_rfl) (by kernel_rfl) (by kernel_rfl) (fun _ _ _ h => h) (Or.inl ⟨by rfl, ?hy13_209⟩) hS2 ?rest13_209
        case hy13_209 =>
          intro W hSw
          (try dsimp only at hSw)
          go_simp
          first | done | (with_reducible rfl)
        try simp only [Act.put, List.setIfInBounds_toArray, List.set_cons_zero, List.set_cons_succ]
        refine hTake (i := 14) (v := ?v14_210) rfl (by kernel_rfl) (by kernel_rfl) (by kernel_rfl) (fun _ _ _ h => h) (Or.inl ⟨by rfl, ?hy14_210⟩) hS2 ?rest14_210
        case hy14_210 =>
          intro W hSw
          (try dsimp only at hSw)
          go_simp
          first | done | (with_reducible rfl)
        try simp only [Act.put, List.setIfInBounds_toArray, List.set_cons_zero, List.set_cons_succ]
        refine hTake (i := 15) (v := ?v15_211) rfl (by kernel_rfl) (by kernel_rfl) (by kernel_rfl) (fun _ _ _ h => h) (Or.inl ⟨by rfl, ?hy15_211⟩) hS2 ?rest15_211
        case hy15_211 =>
          intro W hSw
          (try dsimp only at hSw)
          go_simp
          first | done | (with_reducible rfl)
        try simp only [Act.put, List.setIfInBounds_toArray, List.set_cons_zero, List.set_cons_succ]
        refine hTake (i := 16) (v := ?v16_212) rfl (by kernel_rfl) (by kernel_rfl) (by kernel_rfl) (fun _ _ _ h => h) (Or.inl ⟨by rfl, ?hy16_212⟩) hS2 ?rest16_212
        case hy16_212 =>
          intro W hSw
          (try dsimp only at hSw)
          go_simp
          first | done | (with_reducible rfl)
        try simp only [Act.put, List.setIfInBounds_toArray, List.set_cons_zero, List.set_cons_succ]
        refine hTake (i := 17) (v := ?v17_213) rfl (by kernel_rfl) (by kernel_rfl) (by kernel_rfl) (fun _ _ _ h => h) (Or.inl ⟨by rfl, ?hy17_213⟩) hS2 ?rest17_213
        case hy17_213 =>
          intro W hSw
          (try dsimp only at hSw)
          go_simp
          first | done | (with_reducible rfl)
        try simp only [Act.put, List.setIfInBounds_toArray, List.set_cons_zero, List.set_cons_succ]
        refine hTake (i := 18) (v := ?v18_214) rfl (by kernel_rfl) (by kernel_rfl) (by kernel_rfl) (fun _ _ _ h => h) (Or.inl ⟨by rfl, ?hy18_214⟩) hS2 ?rest18_214
        case hy18_214 =>
          intro W hSw
          (try dsimp only at hSw)
          go_simp
          first | done | (with_reducible rfl)
        try simp only [Act.put, List.setIfInBounds_toArray, List.set_cons_zero, List.set_cons_succ]
        refine hTake (i := 20) (v := ?v20_215) rfl (by kernel_rfl) (by kernel_rfl) (by kernel_rfl) (fun _ _ _ h => h) (Or.inl ⟨by rfl, ?hy20_215⟩) hS2 ?rest20_215
        case hy20_215 =>
          intro W hSw
          (try dsimp only at hSw)
          go_simp
          first | done | (with_reducible rfl)
        try simp only [Act.put, List.setIfInBounds_toArray, List.set_cons_zero, List.set_cons_succ]
        refine hTake (i := 21) (v := ?v21_216) rfl (by kernel_rfl) (by kernel_rfl) (by kernel_rfl) (fun _ _ _ h => h) (Or.inl ⟨by rfl, ?hy21_216⟩) hS2 ?rest21_216
        case hy21_216 =>
          intro W hSw
          (try dsimp only at hSw)
          go_simp
          first | done | (with_reducible rfl)
        try simp only [Act.put, List.setIfInBounds_toArray, List.set_cons_zero, List.set_cons_succ]
        refine hTake (i := 22) (v := ?v22_217) rfl (by kernel_rfl) (by kernel_rfl) (by kernel_rfl) (fun _ _ _ h => h) (Or.inl ⟨by rfl, ?hy22_217⟩) hS2 ?rest22_217
        case hy22_217 =>
          intro W hSw
          (try dsimp only at hSw)
          go_simp
          first | done | (with_reducible rfl)
        try simp only [Act.put, List.setIfInBounds_toArray, List.set_cons_zero, List.set_cons_succ]
        refine wpAnyH_ready (rs := [19]) (by kernel_rfl) (by simp) ?_
        refine hStep (i := 19) rfl (fun K hK => ?_) AllReadyH.nil
        go_simp; go_at_call 12; refine (K3.out _ BB2).mono ?_; rintro e v4 ⟨rfl, hb⟩; have BB3 := Below.then BB2 hb; clear hb; try go_wp2_with fail
        refine hK.out _ _ ?_ (fun hS3 => ?_)
        · (try dsimp only); exact KP.out _ BB3
        clear hK K
        try simp only [Act.put, List.setIfInBounds_toArray, List.set_cons_zero, List.set_cons_succ]
        refine wpAnyH_ready (rs := [23]) (by kernel_rfl) (by simp) ?_
        refine hStep (i := 23) rfl (fun K hK => ?_) AllReadyH.nil
        go_simp; go_at_call 12; refine (K4.out _ BB3).mono ?_; rintro e v5 ⟨rfl, hb⟩; have BB4 := Below.then BB3 hb; clear hb; try go_wp2_with fail
        refine hK.out _ _ ?_ (fun hS4 => ?_)
        · (try dsimp only); exact KP.out _ BB4
        clear hK K
        try simp only [Act.put, List.setIfInBounds_toArray, List.set_cons_zero, List.set_cons_succ]
        refine hTake (i := 24) (v := ?v24_218) rfl (by kernel_rfl) (by kernel_rfl) (by kernel_rfl) (fun _ _ _ h => h) (Or.inl ⟨by rfl, ?hy24_218⟩) hS4 ?rest24_218
        case hy24_218 =>
          intro W hSw
          (try dsimp only at hSw)
          go_simp
          first | done | (with_reducible rfl)
        try simp only [Act.put, List.setIfInBounds_toArray, List.set_cons_zero, List.set_cons_succ]
        refine hTake (i := 25) (v := ?v25_219) rfl (by kernel_rfl) (by kernel_rfl) (by kernel_rfl) (fun _ _ _ h => h) (Or.inl ⟨by rfl, ?hy25_219⟩) hS4 ?rest25_219
        case hy25_219 =>
          intro W hSw
          (try dsimp only at hSw)
          go_simp
          first | done | (with_reducible rfl)
        try simp only [Act.put, List.setIfInBounds_toArray, List.set_cons_zero, List.set_cons_succ]
        refine hTake (i := 26) (v := ?v26_220) rfl (by kernel_rfl) (by kernel_rfl) (by kernel_rfl) (fun _ _ _ h => h) (Or.inl ⟨by rfl, ?hy26_220⟩) hS4 ?rest26_220
        case hy26_220 =>
          intro W hSw
          (try dsimp only at hSw)
          go_simp
          first | done | (with_reducible rfl)
        try simp only [Act.put, List.setIfInBounds_toArray, List.set_cons_zero, List.set_cons_succ]
        refine wpAnyH_done (by kernel_rfl) ?_ _
        have HSz := Lib.hid (HS36.out.next BB4)
        clear hS0 hS1 hS2 hS3 hS4 KP K1 K2 K3 K4
        go_wp2
        go_ret
        exact ⟨rfl, HSz.out.below⟩
end Go.Proofs.YtbkiedhaacapbaaDoor

