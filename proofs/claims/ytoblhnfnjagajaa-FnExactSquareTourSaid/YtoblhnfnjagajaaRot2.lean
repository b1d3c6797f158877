/- FnExactRotationalTour: the reference's function. -/
import Derived.Test.YtoblhnfnjagajaaRot
namespace Go.Proofs.Ytoblhnfnjagajaa
open Go.RowKit Go.Sort
set_option maxRecDepth 100000

/-- those whom a beats by the first k connections -/
def rotK (xs : List Int) (n a k : Nat) : Nat := setOf (fun b => (xs.take k).any fun x => ((a : Int) + x) % n == (b : Int)) n
theorem rotK_zero (xs : List Int) (n a : Nat) : rotK xs n a 0 = 0 := Nat.eq_of_testBit_eq fun j => by simp [rotK, testBit_setOf]
theorem conn_at {n : Nat} {xs : List Int} (hp : connP n xs) {j : Nat} (hj : j < xs.length) : 1 ≤ xs.getD j 0 ∧ xs.getD j 0 ≤ n - 1 := (hp.2.1 j hj).1
theorem conn_lt {n : Nat} {xs : List Int} (hp : connP n xs) {k : Nat} (hk : k < xs.length) : ∀ i, i < k → xs.getD i 0 < xs.getD k 0 := by
  induction k with
  | zero => intro i hi; omega
  | succ k ih =>
    intro i hi
    have h1 := (hp.2.1 (k + 1) hk).2.1 (by omega)
    rw [Nat.add_sub_cancel] at h1
    by_cases h : i = k
    · subst h; exact h1
    · have := ih (by omega) i (by omega); omega
theorem mem_take_at {xs : List Int} {k : Nat} (hk : k ≤ xs.length) {x : Int} (h : x ∈ xs.take k) : ∃ i, i < k ∧ xs.getD i 0 = x := by
  obtain ⟨i, hi, e⟩ := List.mem_iff_getElem.1 h
  have hl : i < k := by rw [List.length_take] at hi; omega
  refine ⟨i, hl, ?_⟩
  rw [List.getElem_take] at e
  rw [List.getD_eq_getElem?_getD, List.getElem?_eq_getElem (by omega)]
  exact e
theorem rot_inj {n a : Nat} {x y : Int} (hn : n = 1 ∨ n = 3 ∨ n = 5 ∨ n = 7) (hx : 1 ≤ x ∧ x ≤ n - 1) (hy : 1 ≤ y ∧ y ≤ n - 1) (h : ((a : Int) + x) % n = ((a : Int) + y) % n) : x = y := by
  rcases hn with rfl | rfl | rfl | rfl <;> omega
theorem take_snocI' {xs : List Int} {k : Nat} (hk : k < xs.length) : xs.take (k + 1) = xs.take k ++ [xs.getD k 0] := by
  rw [List.take_succ_eq_append_getElem hk, show xs.getD k 0 = xs[k] by simp [hk]]
/-- one connection more -/
theorem rotK_step {n : Nat} {xs : List Int} (hp : connP n xs) (hn : n = 1 ∨ n = 3 ∨ n = 5 ∨ n = 7) {a k t : Nat} (hk : k < xs.length) (ht : ((a : Int) + xs.getD k 0) % n = (t : Int)) (htn : t < n) :
    rotK xs n a (k + 1) = rotK xs n a k + 2 ^ t := by
  have hno : (rotK xs n a k).testBit t = false := by
    unfold rotK
    rw [testBit_setOf]
    rw [Bool.and_eq_false_iff]
    right
    rw [List.any_eq_false]
    intro x hx
    obtain ⟨i, hi, rfl⟩ := mem_take_at (by omega) hx
    intro e
    have e := beq_iff_eq.1 e
    have h1 := rot_inj hn (conn_at hp (by omega : i < xs.length)) (conn_at hp hk) (e.trans ht.symm)
    have h2 := conn_lt hp hk i hi
    omega
  have hlt : rotK xs n a k < 2 ^ 62 := Nat.lt_of_lt_of_le (setOf_lt _ n) (Nat.pow_le_pow_right (by decide) (by omega))
  rw [add_or hlt (by omega) hno]
  refine Nat.eq_of_testBit_eq fun j => ?_
  rw [Nat.testBit_or, Nat.testBit_two_pow]
  unfold rotK
  rw [testBit_setOf, testBit_setOf, take_snocI' hk, List.any_append, List.any_cons, List.any_nil, Bool.or_false, ht]
  by_cases hj : t = j
  · subst hj; simp [htn]
  · have : ((t : Int) == (j : Int)) = false := by simp; omega
    rw [this, Bool.or_false]; simp [hj]
theorem rotK_end {n : Nat} {xs : List Int} (hp : connP n xs) (hn : n = 1 ∨ n = 3 ∨ n = 5 ∨ n = 7) {a : Nat} (ha : a < n) : rotK xs n a xs.length = setOf (toQ (rotP xs n) a) n := by
  unfold rotK
  rw [List.take_length]
  refine setOf_congr fun b hb => ?_
  rw [Bool.eq_iff_iff]
  unfold toQ rotP containsI
  simp only [List.any_eq_true, beq_iff_eq, Bool.and_eq_true, Bool.not_eq_true', beq_eq_false_iff_ne, decide_eq_true_eq]
  constructor
  · rintro ⟨x, hx, e⟩
    obtain ⟨i, hi, rfl⟩ := List.mem_iff_getElem.1 hx
    have hc := conn_at hp hi
    have e2 : xs.getD i 0 = xs[i] := by simp [hi]
    rw [e2] at hc
    refine ⟨?_, ?_⟩
    · rintro rfl
      rcases hn with rfl | rfl | rfl | rfl <;> omega
    · have : ((b : Int) - a + n) % n = xs[i] := by rcases hn with rfl | rfl | rfl | rfl <;> omega
      rw [this]; exact hx
  · rintro ⟨hne, hm⟩
    refine ⟨_, hm, ?_⟩
    rcases hn with rfl | rfl | rfl | rfl <;> omega
/-- the rows that grow -/
def rkRow (xs N : List Int) (n a k : Nat) : Prop := ∀ i, i < n → N.getD i 0 = if i < a then ((setOf (toQ (rotP xs n) i) n : Nat) : Int) else if i = a then ((rotK xs n a k : Nat) : Int) else 0
theorem rkRow_start {xs : List Int} {n : Nat} : rkRow xs (List.replicate n 0) n 0 0 := fun i hi => by
  have : (List.replicate n (0 : Int)).getD i 0 = 0 := by simp [hi]
  rw [this, rotK_zero]; simp
theorem rkRow_next {xs N : List Int} {n a : Nat} (hp : connP n xs) (hn : n = 1 ∨ n = 3 ∨ n = 5 ∨ n = 7) (ha : a < n) (h : rkRow xs N n a xs.length) : rkRow xs N n (a + 1) 0 := fun i hi => by
  rw [h i hi, rotK_zero]
  by_cases h1 : i < a
  · rw [if_pos h1, if_pos (by omega)]
  · rw [if_neg h1]
    by_cases h2 : i = a
    · subst h2; rw [if_pos rfl, if_pos (by omega), rotK_end hp hn ha]
    · rw [if_neg h2, if_neg (by omega)]; simp
theorem rkRow_at {xs N : List Int} {n a k : Nat} (h : rkRow xs N n a k) (ha : a < n) : N.getD a 0 = ((rotK xs n a k : Nat) : Int) := by
  rw [h a ha, if_neg (by omega), if_pos rfl]
theorem rkRow_step {xs N : List Int} {n a k : Nat} {v : Int} (hl : N.length = n) (h : rkRow xs N n a k) (ha : a < n) (hv : v = ((rotK xs n a (k + 1) : Nat) : Int)) : rkRow xs (N.set a v) n a (k + 1) := fun i hi => by
  by_cases h2 : i = a
  · subst h2
    rw [getD_set_same _ (by omega), if_neg (by omega), if_pos rfl, hv]
  · rw [getD_set_other _ (Ne.symm h2), h i hi, if_neg h2, if_neg h2]
theorem rkRow_end {xs N : List Int} {n : Nat} (hl : N.length = n) (h : rkRow xs N n n 0) : N = rotT xs n :=
  list_ext0 hl (by rw [rotT, toL_len]) fun i hi => by
    rw [h i hi, if_pos hi]
    simp [rotT, toL, hi]
set_option maxHeartbeats 4000000 in
theorem specRot (n : Int) (v : Value) (xs : List Int) (w : World) (h : Rd w v xs) :
    Calls Try.prog 51 #[.int .i64 n, v] w fun e w' => ∃ sl', e = .returned (.tuple #[.agg #[.int .i64 (rtS n xs), sl'], .bool (connB n xs)]) ∧ Own w' w.heap.size sl' (rtL n xs) ∧ Below w.heap.size w w' := by
  obtain ⟨i0, hi, hz0, hz1, hz2⟩ := info_parts i64_info
  have HR := Lib.hid h
  obtain ⟨A, c, rfl, hlc, hmc, hc⟩ := h
  unfold maxLen at hmc
  have HC := Lib.hid hc
  clear hc
  have b0 := below_alloc1 w (.cells #[.int .i64 0, .slice none 0 0] 65)
  have t0 := BoxF.new w 0 (.slice none 0 0) 65
  have HB0 := Lib.hid b0
  have HT0 := Lib.hid t0
  clear b0 t0
  rcases q0 : connB n xs with _ | _
  · rw [(rt_no q0).1, (rt_no q0).2]
    go_enter Try.func51, Try.ntmps51
    go_wp2_with fail
    generalize w.alloc (.cells #[.int .i64 0, .slice none 0 0] 65) = w0 at *
    refine (specIsConnection n _ xs _ (HR.out.below HB0.out)).mono ?_
    rintro e wz ⟨rfl, rfl⟩
    rw [q0]
    have v0 := HT0.out.1.1
    have v1 := HT0.out.1.2
    have f0 := HT0.out.2 0
    have f1 := HT0.out.2 1
    have HBx := Lib.hid ((HB0.out.setCell (p := ⟨w.heap.size, 0, none⟩) (Nat.le_refl _) (.int .i64 0)).setCell (p := ⟨w.heap.size, 1, none⟩) (Nat.le_refl _) (.slice none 0 0))
    have R0 : Hid (((w0.setCell ⟨w.heap.size, 0, none⟩ (.int .i64 0)).setCell ⟨w.heap.size, 1, none⟩ (.slice none 0 0)).cell? ⟨w.heap.size, 0, none⟩ = some (.int .i64 0)) := (World.cell?_setCell_other _ _ _ _ (by simp)).trans (World.cell?_setCell_same _ _ _ v0)
    have R1 : Hid (((w0.setCell ⟨w.heap.size, 0, none⟩ (.int .i64 0)).setCell ⟨w.heap.size, 1, none⟩ (.slice none 0 0)).cell? ⟨w.heap.size, 1, none⟩ = some (.slice none 0 0)) := World.cell?_setCell_same _ _ _ ((World.cell?_setCell_other _ _ _ _ (by simp)).trans v1)
    go_wp2
    have r0 := R0.out
    have r1 := R1.out
    refine bodyPost_ret (v := .tuple #[.agg #[.int .i64 0, .slice none 0 0], .bool false]) (by simp only [results, Try.results51]; simp [go_sem, r0, r1]) rfl ⟨_, rfl, Own.nil_ _ _, HBx.out⟩
  · have hp := connB_iff.1 q0
    obtain ⟨n, rfl⟩ := Int.eq_ofNat_of_zero_le (show 0 ≤ n by have := hp.1; omega)
    have hm : n = 1 ∨ n = 3 ∨ n = 5 ∨ n = 7 := by have := hp.1; omega
    have hn1 : 1 ≤ n := by omega
    have hn8 : n ≤ 8 := by omega
    rw [(rt_yes q0).1, (rt_yes q0).2, show ((n : Int)).toNat = n from rfl]
    have HP0 := Lib.hid hp
    go_enter Try.func51, Try.ntmps51
    go_wp2_with fail
    generalize w.alloc (.cells #[.int .i64 0, .slice none 0 0] 65) = w0 at *
    refine (specIsConnection n _ xs _ (HR.out.below HB0.out)).mono ?_
    rintro e wz ⟨rfl, rfl⟩
    rw [q0]
    have hsz0 : w.heap.size + 1 ≤ w0.heap.size := HT0.out.gt
    generalize hq : xs.length = q at *
    have HQ := Lib.hid hq
    clear hq hp
    go_wp2_with (at_make; refine wpList_make_full _ rfl _ _ 45 rfl w0.heap.size 3 i0 (.int .i64 0) 1 Try.underlying45 hi hz0 hz1 _ _ _ _ n rfl rfl rfl rfl (by rw [hz2]; omega) (by unfold maxLen; omega) (Nat.le_refl _) ?_; intro w1 hown hg1; have hb1 : Below w0.heap.size w0 w1 := (Below.refl _ _).grown hg1 (Nat.le_refl _) (by simp); have HT1 := Lib.hid (HT0.out.below hb1); have HB1 := Lib.hid (Below.then HB0.out hb1); have HOWN := Lib.hid hown; have hsz1 := hb1.size; clear hown hg1 hb1)
    have hgl := (World.ownsRow.lt HOWN.out w0.heap.size rfl).2
    have bU := below_alloc1 w1 (.cells #[.int .i64 n, .slice (some ⟨w0.heap.size, 0, none⟩) n n] 65)
    have HU2 := Lib.hid (BoxF.new w1 n (.slice (some ⟨w0.heap.size, 0, none⟩) n n) 65)
    have HT2 := Lib.hid (HT1.out.below bU)
    have HB2 := Lib.hid (Below.then HB1.out bU)
    have HO2 : Hid (Own (w1.alloc (.cells #[.int .i64 n, .slice (some ⟨w0.heap.size, 0, none⟩) n n] 65)) w0.heap.size (.slice (some ⟨w0.heap.size, 0, none⟩) n n) (List.replicate n 0)) := by
      have ho := HOWN.out
      rw [ints_made'] at ho
      refine Own.below (w := w1) ?_ bU
      unfold Own
      rw [List.length_replicate]
      exact ho
    generalize w1.alloc (.cells #[.int .i64 n, .slice (some ⟨w0.heap.size, 0, none⟩) n n] 65) = w2 at *
    generalize hgt : w1.heap.size = gt at *
    generalize hgl' : w0.heap.size = gl at *
    have hgg : gl < gt := by omega
    have hwg : w.heap.size < gl := by omega
    clear bU HOWN HT1 HB1 HT0 HB0 hgt hgl' q0
    go_loopw [7] (fun i wr => ∃ (a : Nat) (N : List Int), a ≤ n ∧ i = .int .i64 a ∧ N.length = n ∧ Own wr gl (.slice (some ⟨gl, 0, none⟩) n n) N ∧ Hid (rkRow xs N n a 0) ∧ BoxF wr gt n (.slice (some ⟨gl, 0, none⟩) n n) ∧ BoxF wr w.heap.size 0 (.slice none 0 0) ∧ Below w.heap.size w wr) (fun i _ => n - (intOf i).toNat)
    case atStart => exact ⟨0, _, by omega, rfl, by simp, HO2.out, rkRow_start, HU2.out, HT2.out, HB2.out⟩
    case round =>
      obtain ⟨wa, rfl⟩ : ∃ x, x = wr := ⟨_, rfl⟩
      obtain ⟨a, N, ha, rfl, hNl, hown, HP, hu, ht, hb⟩ := hrel
      have HOa := Lib.hid hown
      have HUa := Lib.hid hu
      have HTa := Lib.hid ht
      have HBa := Lib.hid hb
      clear hown hu ht hb
      by_cases hlta : a < n
      · go_wp2
        go_loopw [26] (fun i wr => ∃ (k : Nat) (N : List Int), k ≤ q ∧ i = .int .i64 k ∧ N.length = n ∧ Own wr gl (.slice (some ⟨gl, 0, none⟩) n n) N ∧ Hid (rkRow xs N n a k) ∧ BoxF wr gt n (.slice (some ⟨gl, 0, none⟩) n n) ∧ BoxF wr w.heap.size 0 (.slice none 0 0) ∧ Below w.heap.size w wr) (fun i _ => q - (intOf i).toNat)
        case atStart => exact ⟨0, N, by omega, rfl, hNl, HOa.out, HP, HUa.out, HTa.out, HBa.out⟩
        case round =>
          obtain ⟨k, M, hkq, rfl, hMl, hown, HP2, hu, ht, hb⟩ := hrel
          have HO := Lib.hid hown
          have HU := Lib.hid hu
          have HT := Lib.hid ht
          have HB := Lib.hid hb
          clear hown hu ht hb
          by_cases hltk : k < q
          · obtain ⟨g, off, rfl, hg, hx⟩ := HC.out (by omega)
            have hkx : k < xs.length := by rw [HQ.out]; exact hltk
            have hxk := (HB.out.cell (p := ⟨g, off + k, none⟩) hg).trans (hx k hltk)
            have hcx := conn_at HP0.out hkx
            obtain ⟨t, htt⟩ := Int.eq_ofNat_of_zero_le (Int.emod_nonneg ((a : Int) + xs.getD k 0) (show (n : Int) ≠ 0 by omega))
            have htn : t < n := by have := Int.emod_lt_of_pos ((a : Int) + xs.getD k 0) (show (0 : Int) < n by omega); omega
            have hr : Int.tmod ((a : Int) + xs.getD k 0) n = (t : Int) := (Int.tmod_eq_emod_of_nonneg (by omega)).trans htt
            have HST := Lib.hid (rotK_step (a := a) HP0.out hm hkx htt htn)
            have za := (HO.out.at1 hMl (by omega)).1 a hlta
            rw [rkRow_at HP2.out hlta] at za
            have hS : rotK xs n a k < 256 := setOf_small _ (by omega)
            have hadd := add_shl (rotK xs n a k) t (by omega) (by omega)
            rw [← HST.out] at hadd
            have HADD := Lib.hid hadd
            generalize hX : rotK xs n a (k + 1) = X at *
            have HX := Lib.hid hX
            clear hx htt
            generalize xs.getD k 0 = x at *
            generalize rotK xs n a k = S at *
            go_wp2_with fail
            have c1 := cell_regrown HU.out.1.2
            have c2 := cell_regrown za
            clear za hX hxk
            refine wp_region_below_tail 16 (by kernel_rfl) (by kernel_rfl) ?_
            simp only [List.take_succ_cons, List.take_zero, List.drop_succ_cons, List.drop_zero]
            repeat (go_big_quiet_step (first | (with_reducible fail)))
            refine wpQuiet_nil ?_
            intro wq hbq0
            have hbq := Lib.hid hbq0
            clear hbq0
            clear c1 c2 hadd hr
            have O2 := HO.out.below hbq.out
            obtain ⟨hx2, hf2⟩ := O2.at1 hMl (by omega)
            have za := hx2 a hlta
            have fa := hf2 a
            have O3 := (O2.set_ hMl a (X : Int)).1
            have HO3 := Lib.hid O3
            have HU3 := Lib.hid ((HU.out.below hbq.out).kept (setCell_grown _ ⟨gl, a, none⟩ (.int .i64 X)) (by simp; omega))
            have HT3 := Lib.hid ((HT.out.below hbq.out).kept (setCell_grown _ ⟨gl, a, none⟩ (.int .i64 X)) (by simp; omega))
            have HB3 := Lib.hid ((Below.then HB.out hbq.out).setCell (p := ⟨gl, a, none⟩) (show w.heap.size ≤ gl by omega) (.int .i64 X))
            clear hx2 hf2 O2 O3 HO HU HT HB hbq
            go_wp2
            go_roundw
            case rel =>
              first | rw [HADD.out] | skip
              exact ⟨k + 1, M.set a X, by omega, by go_num, by simp [hMl], HO3.out, rkRow_step hMl HP2.out hlta (by rw [HX.out]), HU3.out, HT3.out, HB3.out⟩
            case measure => simp [intOf]; omega
          · obtain rfl : q = k := by omega
            have HRN : Hid (rkRow xs M n (a + 1) 0) := rkRow_next HP0.out hm hlta (by rw [HQ.out]; exact HP2.out)
            go_wp2
            go_roundw
            case rel => exact ⟨a + 1, M, by omega, by go_num, hMl, HO.out, HRN.out, HU.out, HT.out, HB.out⟩
            case measure => simp [intOf]; omega
      · obtain rfl : n = a := by omega
        have HE := Lib.hid (rkRow_end hNl HP.out)
        have u0 := HUa.out.1.1
        have u1 := HUa.out.1.2
        have v0 := HTa.out.1.1
        have v1 := HTa.out.1.2
        have f0 := HTa.out.2 0
        have f1 := HTa.out.2 1
        have hw2 := HUa.out.gt
        have hgg2 : gt ≠ w.heap.size := by omega
        have HOx := Lib.hid ((HOa.out.kept (setCell_grown _ ⟨w.heap.size, 0, none⟩ (.int .i64 n)) (own_ne (fun k hk => (HOa.out.lt k hk).1) hwg)).kept (setCell_grown _ ⟨w.heap.size, 1, none⟩ (.slice (some ⟨gl, 0, none⟩) n n)) (own_ne (fun k hk => (HOa.out.lt k hk).1) hwg))
        have HBx := Lib.hid ((HBa.out.setCell (p := ⟨w.heap.size, 0, none⟩) (Nat.le_refl _) (.int .i64 n)).setCell (p := ⟨w.heap.size, 1, none⟩) (Nat.le_refl _) (.slice (some ⟨gl, 0, none⟩) n n))
        have R0 : Hid (((wa.setCell ⟨w.heap.size, 0, none⟩ (.int .i64 n)).setCell ⟨w.heap.size, 1, none⟩ (.slice (some ⟨gl, 0, none⟩) n n)).cell? ⟨w.heap.size, 0, none⟩ = some (.int .i64 n)) := (World.cell?_setCell_other _ _ _ _ (by simp)).trans (World.cell?_setCell_same _ _ _ v0)
        have R1 : Hid (((wa.setCell ⟨w.heap.size, 0, none⟩ (.int .i64 n)).setCell ⟨w.heap.size, 1, none⟩ (.slice (some ⟨gl, 0, none⟩) n n)).cell? ⟨w.heap.size, 1, none⟩ = some (.slice (some ⟨gl, 0, none⟩) n n)) := World.cell?_setCell_same _ _ _ ((World.cell?_setCell_other _ _ _ _ (by simp)).trans v1)
        go_wp2
        have r0 := R0.out
        have r1 := R1.out
        refine bodyPost_ret (v := .tuple #[.agg #[.int .i64 n, .slice (some ⟨gl, 0, none⟩) n n], .bool true]) (by simp only [results, Try.results51]; simp [go_sem, r0, r1]) rfl ⟨_, rfl, ?_, HBx.out⟩
        rw [← HE.out]
        exact HOx.out.mono (by omega)
end Go.Proofs.Ytoblhnfnjagajaa
