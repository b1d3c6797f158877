/- Texts put together: Parts, Revs, PartO, Way. -/
import Derived.Test.YtbkiedhaacapbaaGreatMTop09
import Derived.Test.YtbkiedhaacapbaaGreatMTop11
import Derived.Deep.RegionLaw
import Derived.Test.YtbkiedhaacapbaaGreatMTop01
namespace Go.Proofs.YtbkiedhaacapbaaGreat
open Go.RowKit Go.Sort
set_option maxRecDepth 100000
def bsC (xs : List Int) (x y : Int) : Int := (scK xs y.toNat : Int) - scK xs x.toNat
def ordS (xs : List Int) : List Int := sortR (fun x y => decide (bsC xs x y < 0)) (idxL xs.length)
theorem ordS_len (xs : List Int) : (ordS xs).length = xs.length := by
  have := sortR_len (fun x y => decide (bsC xs x y < 0)) (idxL xs.length) (Nat.le_refl _)
  rw [List.take_length, idxL_len] at this
  exact this
theorem ins_mem (bef : Int → Int → Bool) (S : List Int) (x y : Int) (h : y = x ∨ y ∈ S) : y ∈ insR bef S x := by
  unfold insR
  rw [List.mem_append, List.mem_cons]
  rcases h with h | h
  · exact .inr (.inl h)
  · rw [← List.take_append_drop (posR bef x S S.length) S, List.mem_append] at h
    exact h.imp id .inr
theorem sort_mem (bef : Int → Int → Bool) (L : List Int) : ∀ i, i ≤ L.length → ∀ y, y ∈ L.take i → y ∈ sortR bef (L.take i) := by
  intro i
  induction i with
  | zero => intro _ y h; simp at h
  | succ i ih =>
    intro hi y h
    rw [sortR_succ bef L (by omega)]
    have e : L.take (i + 1) = L.take i ++ [L.getD i 0] := by
      rw [List.take_succ_eq_append_getElem (by omega), show L.getD i 0 = L[i] by simp [show i < L.length by omega]]
    rw [e, List.mem_append, List.mem_singleton] at h
    refine ins_mem _ _ _ _ ?_
    rcases h with h | h
    · exact .inr (ih (by omega) y h)
    · exact .inl h
theorem posR_after {bef : Int → Int → Bool} {x : Int} {S : List Int} : ∀ {k}, k ≤ S.length → ∀ j, posR bef x S k ≤ j → j < k → bef x (S.getD j 0) = true := by
  intro k
  induction k with
  | zero => intro _ j _ h; omega
  | succ k ih =>
    intro hk j hj hjk
    rcases q : bef x (S.getD k 0) with _ | _
    · rw [posR_stop q] at hj; omega
    · rw [posR_go q] at hj
      by_cases e : j = k
      · subst e; exact q
      · exact ih (by omega) j hj (by omega)
theorem posR_before {bef : Int → Int → Bool} {x : Int} {S : List Int} : ∀ {k}, k ≤ S.length → 0 < posR bef x S k → bef x (S.getD (posR bef x S k - 1) 0) = false := by
  intro k
  induction k with
  | zero => intro _ h; simp [posR] at h
  | succ k ih =>
    intro hk h
    rcases q : bef x (S.getD k 0) with _ | _
    · rw [posR_stop q, Nat.add_sub_cancel]; exact q
    · rw [posR_go q] at h ⊢; exact ih (by omega) h
/-- the greater keys stand first -/
theorem ins_sorted {key : Int → Int} {bef : Int → Int → Bool} (hb : ∀ x y, bef x y = decide (key y < key x)) {S : List Int} {x : Int} (hS : S.Pairwise fun a b => key b ≤ key a) : (insR bef S x).Pairwise fun a b => key b ≤ key a := by
  unfold insR
  have hle := posR_le bef x S S.length
  have hS2 := hS
  rw [← List.take_append_drop (posR bef x S S.length) S, List.pairwise_append] at hS2
  have h1 : ∀ y ∈ S.drop (posR bef x S S.length), key y ≤ key x := fun y hy => by
    obtain ⟨j, hj, rfl⟩ := List.getElem_of_mem hy
    rw [List.length_drop] at hj
    have := posR_after (bef := bef) (x := x) (Nat.le_refl S.length) (posR bef x S S.length + j) (by omega) (by omega)
    rw [hb] at this
    have h2 := of_decide_eq_true this
    rw [List.getElem_drop]
    rw [show S.getD (posR bef x S S.length + j) 0 = S[posR bef x S S.length + j] by simp [show posR bef x S S.length + j < S.length by omega]] at h2
    omega
  have h2 : ∀ y ∈ S.take (posR bef x S S.length), key x ≤ key y := fun y hy => by
    rcases Nat.eq_zero_or_pos (posR bef x S S.length) with h0 | h0
    · rw [h0] at hy; simp at hy
    · have hp := posR_before (Nat.le_refl S.length) h0
      rw [hb] at hp
      have h3 := of_decide_eq_false hp
      have hlt : posR bef x S S.length - 1 < S.length := by omega
      rw [show S.getD (posR bef x S S.length - 1) 0 = S[posR bef x S S.length - 1] by simp [hlt]] at h3
      obtain ⟨j, hj, rfl⟩ := List.getElem_of_mem hy
      rw [List.length_take] at hj
      rw [List.getElem_take]
      by_cases e : j = posR bef x S S.length - 1
      · have : S[j]'(by omega) = S[posR bef x S S.length - 1] := by simp [e]
        rw [this]; omega
      · have := List.pairwise_iff_getElem.1 hS j (posR bef x S S.length - 1) (by omega) hlt (by omega)
        omega
  rw [List.pairwise_append, List.pairwise_cons]
  exact ⟨hS2.1, ⟨h1, hS2.2.1⟩, fun a ha b hb => by
    rw [List.mem_cons] at hb
    rcases hb with rfl | hb
    · exact h2 a ha
    · exact hS2.2.2 a ha b hb⟩
theorem sort_sorted {key : Int → Int} {bef : Int → Int → Bool} (hb : ∀ x y, bef x y = decide (key y < key x)) (L : List Int) : ∀ i, i ≤ L.length → (sortR bef (L.take i)).Pairwise fun a b => key b ≤ key a := by
  intro i
  induction i with
  | zero => intro _; simp [sortR]
  | succ i ih => intro hi; rw [sortR_succ bef L (by omega)]; exact ins_sorted hb (ih (by omega))
theorem ordS_facts (xs : List Int) : (∀ i, i < xs.length → ∃ a : Nat, a < xs.length ∧ (ordS xs).getD i 0 = a) ∧ (∀ a, a < xs.length → ∃ i, i < xs.length ∧ (ordS xs).getD i 0 = (a : Int)) ∧
    (∀ i j a b : Nat, i < j → j < xs.length → (ordS xs).getD i 0 = (a : Int) → (ordS xs).getD j 0 = (b : Int) → scK xs b ≤ scK xs a) := by
  have hl := ordS_len xs
  have hm : ∀ y, y ∈ idxL xs.length → y ∈ ordS xs := fun y hy => by
    have := sort_mem (fun x y => decide (bsC xs x y < 0)) (idxL xs.length) (idxL xs.length).length (Nat.le_refl _) y (by rwa [List.take_length])
    rwa [List.take_length] at this
  have hs : (ordS xs).Pairwise fun a b => (scK xs b.toNat : Int) ≤ scK xs a.toNat := by
    have := sort_sorted (key := fun a => (scK xs a.toNat : Int)) (bef := fun x y => decide (bsC xs x y < 0)) (fun x y => by rw [decide_eq_decide]; unfold bsC; omega) (idxL xs.length) (idxL xs.length).length (Nat.le_refl _)
    rwa [List.take_length] at this
  refine ⟨fun i hi => ?_, fun a ha => ?_, fun i j a b hij hj hia hjb => ?_⟩
  · have h1 : (ordS xs).getD i 0 ∈ ordS xs := getD_memI (by omega)
    have h2 : (ordS xs).getD i 0 ∈ idxL xs.length := mem_sortR (i := (idxL xs.length).length) (Nat.le_refl _) (by rw [List.take_length]; exact h1)
    exact idxL_mem h2
  · have h1 := hm (a : Int) (by unfold idxL; rw [List.mem_map]; exact ⟨a, List.mem_range.2 ha, rfl⟩)
    obtain ⟨i, hi, he⟩ := List.getElem_of_mem h1
    exact ⟨i, by omega, by simp [hi, he]⟩
  · have := List.pairwise_iff_getElem.1 hs i j (by omega) (by omega) hij
    rw [show (ordS xs)[i] = (a : Int) by rw [← hia]; simp [show i < (ordS xs).length by omega], show (ordS xs)[j] = (b : Int) by rw [← hjb]; simp [show j < (ordS xs).length by omega], Int.toNat_natCast, Int.toNat_natCast] at this
    omega
theorem scK_le (xs : List Int) (a : Nat) (h : winsN xs a < 256) : scK xs a ≤ 8 := by unfold scK; rw [pop_mem h]; exact memN_len _ _
set_option maxHeartbeats 1000000 in
theorem bs1_any (n : Nat) (sl : Value) (xs : List Int) (hp : tourP n xs) (a b gt : Nat) (W : World) (hr : Rd W sl xs) (ht : TBox W gt n sl) (ha : a < xs.length) (hb : b < xs.length) :
    Calls Tryz.prog 68 #[.int .i64 a, .int .i64 b, .pointer (some ⟨gt, 0, none⟩)] W fun e w' => e = .returned (.int .i64 (bsC xs a b)) ∧ Below W.heap.size W w' := by
  have k1 := quiet_below (w := W) (fun W' hW => score_any n sl xs b W' (hr.below hW) hp hb)
  have k2 := quiet_below (w := W) (fun W' hW => score_any n sl xs a W' (hr.below hW) hp ha)
  have h1 := scK_le xs a (tour_wins hp ha).2.2
  have h2 := scK_le xs b (tour_wins hp hb).2.2
  have hF : Hid (bsC xs a b = (scK xs b : Int) - scK xs a) := by unfold Hid bsC; rw [Int.toNat_natCast, Int.toNat_natCast]
  unfold scK at h1 h2 hF
  rw [hF.out]
  generalize popN 8 (winsN xs a) = sa at *
  generalize popN 8 (winsN xs b) = sb at *
  have hw : IntKind.i64.wrap ((sb : Int) - sa) = (sb : Int) - sa := by rw [IntKind.wrap_i64]; omega
  have d1 := cell_regrown ht.1
  have d2 := cell_regrown ht.2
  clear hr ht hp
  go_enter Tryz.func68, Tryz.ntmps68
  go_wp2_with fail
  refine wp_region_below (by kernel_rfl) (by kernel_rfl) ?_
  repeat (go_big_quiet_step (first | (with_reducible exact k1 _ _) | (with_reducible exact k2 _ _)))
  refine wpQuiet_nil ?_
  intro wq hbq0
  have HBQ := Lib.hid hbq0
  clear hbq0 d1 d2 k1 k2
  go_wp2
  go_ret
  exact ⟨ret_int (by first | rfl | exact hw | simp [hw]), HBQ.out⟩
set_option maxHeartbeats 2000000 in
theorem byScore_any (n : Nat) (sl : Value) (xs : List Int) (hp : tourP n xs) (w : World) (h : Rd w sl xs) :
    Calls Tryz.prog 33 #[.agg #[.int .i64 n, sl]] w fun e w' => ∃ v', e = .returned v' ∧ Own w' w.heap.size v' (ordS xs) ∧ Below w.heap.size w w' := by
  have hs := hp.1
  have hsl := hp.2.1
  have HR := Lib.hid h
  have HP := Lib.hid hp
  have hn : xs.length = n := by omega
  have HN := Lib.hid hn
  have hF : Hid (ordS xs = sortR (fun x y => decide (bsC xs x y < 0)) (idxL n)) := by unfold Hid ordS; rw [hn]
  have hE : Enters 68 := fun args W => by kernel_rfl
  clear h hp hn
  go_enter Tryz.func33, Tryz.ntmps33
  go_wp2_with fail
  have b0 := below_alloc1 w (.cells #[.int .i64 n, sl] 25)
  have x0 := TBox.new w n (sl) 25
  generalize w.alloc (.cells #[.int .i64 n, sl] 25) = w0 at *
  have HX0 := Lib.hid x0
  have HB0 := Lib.hid b0
  clear x0 b0
  have y0_0 := HX0.out.1
  have y1_0 := HX0.out.2
  go_wp2_with fail
  refine (indices_any n (by omega) w0 (by omega)).mono ?_
  rintro e w4 ⟨rfl, ho4, hb4⟩
  have HO4 := Lib.hid ho4
  have HB4 := Lib.hid hb4
  clear ho4 hb4
  go_wp2_with fail
  refine (sortStable_any 68 #[.pointer (some ⟨w.heap.size, 0, none⟩)] hE (bsC xs) (idxL n) n w0.heap.size w0.heap.size n w4 (idxL_len n) (by omega) (by omega) (Nat.le_refl _) (by omega) HB4.out.size HO4.out (fun x hx y hy W hW => by
    obtain ⟨a, ha, rfl⟩ := idxL_mem hx
    obtain ⟨b, hb, rfl⟩ := idxL_mem hy
    have hWW : Below w0.heap.size w0 W := HB4.out.trans hW
    exact bs1_any n sl xs HP.out a b w.heap.size W (HR.out.below (Below.then HB0.out hWW)) (HX0.out.below hWW) (by rw [HN.out]; exact ha) (by rw [HN.out]; exact hb))).mono ?_
  rintro e w5 ⟨rfl, ho5, hb5⟩
  have HO5 := Lib.hid ho5
  have HB5 := Lib.hid (HB4.out.trans hb5)
  clear ho5 hb5
  go_wp2
  go_ret
  exact ⟨_, rfl, by rw [hF.out]; exact HO5.out.mono HB0.out.size, Below.then HB0.out HB5.out⟩
end Go.Proofs.YtbkiedhaacapbaaGreat

namespace Go.Proofs.YtbkiedhaacapbaaGreat
open Go.RowKit Go.Sort
set_option maxRecDepth 100000
def revM (L : List Int) (n i : Nat) : List Int := (List.range n).map fun k => if k < i ∨ n - i ≤ k then L.getD (n - 1 - k) 0 else L.getD k 0
theorem revM_len (L : List Int) (n i : Nat) : (revM L n i).length = n := by simp [revM]
theorem revM_at {L : List Int} {n i k : Nat} (h : k < n) : (revM L n i).getD k 0 = if k < i ∨ n - i ≤ k then L.getD (n - 1 - k) 0 else L.getD k 0 := by simp [revM, h]
theorem revM_zero {L : List Int} {n : Nat} (h : L.length = n) : revM L n 0 = L := list_ext0 (revM_len _ _ _) h fun k hk => by rw [revM_at hk, if_neg (by omega)]
theorem revM_end {L : List Int} {n i : Nat} (h : L.length = n) (hi : n ≤ i + i + 1) (hi2 : i + i ≤ n) : revM L n i = L.reverse := list_ext0 (n := n) (revM_len _ _ _) (by rw [List.length_reverse]; exact h) fun k hk => by
  have e : L.reverse.getD k 0 = L.getD (n - 1 - k) 0 := by
    rw [List.getD_eq_getElem?_getD, List.getElem?_reverse (by omega), List.getD_eq_getElem?_getD, h]
  rw [revM_at hk, e]
  split
  · rfl
  · rw [show n - 1 - k = k by omega]
theorem revM_step {L : List Int} {n i j : Nat} (hj : j + i + 1 = n) (hij : i < j) : ((revM L n i).set i (L.getD j 0)).set j (L.getD i 0) = revM L n (i + 1) := list_ext0 (n := n) (by rw [List.length_set, List.length_set, revM_len]) (revM_len _ _ _) fun k hk => by
  by_cases e1 : k = j
  · subst e1
    rw [getD_set_same _ (by rw [List.length_set, revM_len]; exact hk), revM_at hk, if_pos (by omega), show n - 1 - k = i by omega]
  · rw [getD_set_other _ (Ne.symm e1)]
    by_cases e2 : k = i
    · subst e2
      rw [getD_set_same _ (by rw [revM_len]; exact hk), revM_at hk, if_pos (by omega), show n - 1 - k = j by omega]
    · rw [getD_set_other _ (Ne.symm e2), revM_at hk, revM_at hk]
      by_cases h : k < i ∨ n - i ≤ k
      · rw [if_pos h, if_pos (by omega)]
      · rw [if_neg h, if_neg (by omega)]
set_option maxHeartbeats 2000000 in
theorem reverse_any (L : List Int) (n base g c : Nat) (w : World) (hl : L.length = n) (h1 : 1 ≤ n) (hn : n ≤ 1000) (hbase : base ≤ w.heap.size) (hc : c ≤ maxLen) (hnc : n ≤ c) (h : Own w base (.slice (some ⟨g, 0, none⟩) n c) L) :
    Calls Tryz.prog 62 #[.slice (some ⟨g, 0, none⟩) n c] w fun e w' => e = .returned (.tuple #[]) ∧ Own w' base (.slice (some ⟨g, 0, none⟩) n c) L.reverse ∧ Below base w w' := by
  have HO := Lib.hid h
  have HL := Lib.hid hl
  have hg := (h.lt g rfl).1
  unfold maxLen at hc
  clear h hl
  go_enter Tryz.func62, Tryz.ntmps62
  go_wp2
  go_loopw [2, 3] (fun i j wr => ∃ a : Nat, a + a ≤ n + 1 ∧ a ≤ n ∧ i = .int .i64 a ∧ j = .int .i64 ((n : Int) - 1 - a) ∧ Hid (a + a ≤ n) ∧ Hid (Own wr base (.slice (some ⟨g, 0, none⟩) n c) (revM L n a)) ∧ Hid (Below base w wr)) (fun i _ _ => n - (intOf i).toNat)
  case atStart => exact ⟨0, by omega, by omega, rfl, by first | rfl | (congr 1; omega) | simp, by unfold Hid; omega, by rw [revM_zero HL.out]; exact HO.out, Below.refl _ _⟩
  case round =>
    obtain ⟨wo, rfl⟩ : ∃ x, x = wr := ⟨_, rfl⟩
    obtain ⟨a, ha1, ha, rfl, rfl, HAA, HOo, HBo⟩ := hrel
    by_cases hlt : (a : Int) < (n : Int) - 1 - a
    · obtain ⟨j, hj⟩ : ∃ j, j + a + 1 = n := ⟨n - 1 - a, by omega⟩
      have hjv : (n : Int) - 1 - a = j := by omega
      rw [hjv] at hlt
      rw [hjv]
      have haj : a < j := by omega
      have hl2 := revM_len L n a
      have hat := HOo.out.at1 hl2 (by omega)
      have z0 := hat.1 a (by omega)
      have z1 := hat.1 j (by omega)
      rw [revM_at (by omega), if_neg (by omega)] at z0 z1
      have f0 := hat.2 a
      have f1 := hat.2 j
      have HST := Lib.hid (revM_step (L := L) hj haj)
      have O3 := (HOo.out.set_ hl2 a (L.getD j 0)).1
      have O4 := (O3.set_ (by rw [List.length_set]; exact hl2) j (L.getD a 0)).1
      rw [HST.out] at O4
      have HO4 := Lib.hid O4
      have HB4 := Lib.hid ((HBo.out.setCell (p := ⟨g, a, none⟩) hg (.int .i64 (L.getD j 0))).setCell (p := ⟨g, j, none⟩) hg (.int .i64 (L.getD a 0)))
      clear O3 O4 hat hl2
      generalize L.getD a 0 = x at *
      generalize L.getD j 0 = y at *
      go_wp2_with fail
      have q1 : IntKind.i64.wrap ((j : Nat) : Int) = (j : Int) := by rw [IntKind.wrap_i64]; omega
      have q2 : IntKind.i64.wrap ((a : Nat) : Int) = (a : Int) := by rw [IntKind.wrap_i64]; omega
      have q3 : a < n := by omega
      have q4 : j < n := by omega
      have q5 : (a : Int) < n := by omega
      have q6 : (j : Int) < n := by omega
      have q7 : (0 : Int) ≤ a := by omega
      have q8 : (0 : Int) ≤ j := by omega
      have q9 : a ≠ j := by omega
      go_region_law (fail)
      all_goals
        clear z0 z1 f0 f1 q1 q2 q3 q4 q5 q6 q7 q8
        have HO5 : Hid (Own ((wo.setCell ⟨g, a, none⟩ (.int .i64 y)).setCell ⟨g, j, none⟩ (.int .i64 x)).drew base (.slice (some ⟨g, 0, none⟩) n c) (revM L n (a + 1))) := HO4.out
        have HB5 : Hid (Below base w ((wo.setCell ⟨g, a, none⟩ (.int .i64 y)).setCell ⟨g, j, none⟩ (.int .i64 x)).drew) := ⟨HB4.out.os, HB4.out.tape, HB4.out.output, HB4.out.size, HB4.out.block⟩
        clear HO4 HB4
        generalize ((wo.setCell ⟨g, a, none⟩ (.int .i64 y)).setCell ⟨g, j, none⟩ (.int .i64 x)).drew = w9 at HO5 HB5 ⊢
        go_wp2
        go_roundw
        case rel => exact ⟨a + 1, by omega, by omega, by go_num, by rw [show (n : Int) - 1 - ((a + 1 : Nat) : Int) = (j : Int) - 1 by omega], by unfold Hid; omega, HO5.out, HB5.out⟩
        case measure => simp [intOf]; omega
    · have HE : Hid (revM L n a = L.reverse) := revM_end HL.out (by omega) HAA.out
      go_wp2
      go_end0
      exact ⟨rfl, by rw [← HE.out]; exact HOo.out, HBo.out⟩
end Go.Proofs.YtbkiedhaacapbaaGreat

namespace Go.Proofs.YtbkiedhaacapbaaGreat
open Go.RowKit Go.Sort
set_option maxRecDepth 100000
theorem bit_test0 (S d : Nat) : (bits BinOp.and IntKind.i64 ((S : Int) / 2 ^ d) 1 == 0) = !S.testBit d := by
  have h := bit_test S d
  rw [i64_and_one] at h ⊢
  have h2 : ((S : Int) / 2 ^ d) % 2 = 0 ∨ ((S : Int) / 2 ^ d) % 2 = 1 := by omega
  rw [← h]
  rcases h2 with h2 | h2 <;> rw [h2] <;> rfl
theorem full_all {n S : Nat} (hS : S < 2 ^ n) (h : ∀ a, a < n → S.testBit a = true) : S = 2 ^ n - 1 := Nat.eq_of_testBit_eq fun c => by
  rw [testBit_full]
  rcases Nat.lt_or_ge c n with hc | hc
  · rw [h c hc]; simp [hc]
  · rw [Nat.testBit_lt_two_pow (Nat.lt_of_lt_of_le hS (Nat.pow_le_pow_right (by decide) hc))]
    simp; omega
theorem cell_new1' (w : World) (x : Value) (t : TypeId) : (w.alloc (.cells #[x] t)).cell? ⟨w.heap.size, 0, none⟩ = some x := by simp
theorem clo_zero (xs : List Int) : clo xs 0 := fun b c h _ => by simp at h
theorem clo_full {s : Int} {xs : List Int} (hp : tourP s xs) : clo xs (2 ^ xs.length - 1) := fun b c h hc => by
  rw [testBit_full] at h ⊢
  have hb : b < xs.length := by simpa using h
  rcases Nat.lt_or_ge c xs.length with h1 | h1
  · simpa using h1
  · rw [wins_hi hp hb h1] at hc; cases hc
def partP (a : Nat) (x : Int) : Bool := x.toNat.testBit a
noncomputable def partI (s : Int) (xs : List Int) (a : Int) : Int := if (tourB s xs && inB a 0 (s - 1)) = true then findI (partP a.toNat) (nI (partsN xs (2 ^ xs.length - 1))) else -1
set_option maxHeartbeats 4000000 in
theorem parts_any (n : Nat) (sl : Value) (xs : List Int) (hp : tourP n xs) (w : World) (h : Rd w sl xs) :
    Calls Tryz.prog 27 #[.agg #[.int .i64 n, sl]] w fun e w' => ∃ v', e = .returned v' ∧ Own w' w.heap.size v' (nI (partsN xs (2 ^ xs.length - 1))) ∧ Below w.heap.size w w' := by
  have hs := hp.1
  have hsl := hp.2.1
  have HR := Lib.hid h
  have HP := Lib.hid hp
  have hn : xs.length = n := by omega
  have hn8 : 1 ≤ n ∧ n ≤ 8 := by omega
  have hp8 := pow_le hn8.2
  obtain ⟨F1, F2, F3⟩ := ordS_facts xs
  rw [hn] at F1 F2 F3
  have HF1 := Lib.hid F1
  have HF2 := Lib.hid F2
  have HF3 := Lib.hid F3
  have HOL := Lib.hid (show (ordS xs).length = n by rw [ordS_len, hn])
  have HRF := Lib.hid (fun a (ha : a < n) => reach_facts hp (a := a) (by omega))
  have HPM := Lib.hid (fun K x (hK : K < 2 ^ n) (hc : clo xs K) (hx : x < n) hnn hlow => part_more hp (K := K) (x := x) (by rw [hn]; exact hK) hc (by rw [hn]; exact hx) hnn hlow)
  have HPS := Lib.hid (fun S (hS : S < 2 ^ n) (hc : clo xs S) h0 => partsN_step hp (S := S) (by rw [hn]; exact hS) hc h0)
  have HN := Lib.hid hn
  clear h F1 F2 F3 hp
  rw [HN.out] at HRF HPM HPS
  clear hn hsl hs
  go_enter Tryz.func27, Tryz.ntmps27
  go_wp2_with fail
  have b0 := below_alloc1 w (.cells #[.int .i64 n, sl] 25)
  have x0 := TBox.new w n (sl) 25
  generalize w.alloc (.cells #[.int .i64 n, sl] 25) = w0 at *
  have HX0 := Lib.hid x0
  have HB0 := Lib.hid b0
  clear x0 b0
  have y0_0 := HX0.out.1
  have y1_0 := HX0.out.2
  go_wp2_with fail
  refine (byScore_any n sl xs HP.out w0 (HR.out.below HB0.out)).mono ?_
  rintro e w1 ⟨v1, rfl, ho1, hb1⟩
  obtain ⟨g, c, rfl, hbg, hc, hnc, hcell, -⟩ := ho1.at_ (n := n) HOL.out (by omega)
  unfold maxLen at hc
  have hg1 := (ho1.lt g rfl).2
  have HCC := Lib.hid hcell
  have HB1 := Lib.hid (Below.then HB0.out hb1)
  have HX1 := Lib.hid (HX0.out.below hb1)
  clear ho1 hb1 hcell HB0 HX0 y0_0 y1_0
  go_wp2
  go_loopw [3, 4, 6] (fun v k i wr => ∃ (t K : Nat) (L : List Nat), t ≤ n ∧ i = .int .i64 ((t : Int) - 1) ∧ k = .int .i64 K ∧ K < 2 ^ n ∧ Hid (clo xs K) ∧ Hid (∀ j, t ≤ j → j < n → ∀ a : Nat, (ordS xs).getD j 0 = (a : Int) → K.testBit a = true) ∧ Hid (L.reverse = partsN xs K) ∧ L.length + t ≤ n ∧ Hid (Own wr w1.heap.size v (nI L)) ∧ Hid (Below w1.heap.size w1 wr)) (fun _ _ i _ => ((intOf i) + 1).toNat)
  case atStart => exact ⟨n, 0, [], Nat.le_refl _, rfl, rfl, Nat.two_pow_pos n, clo_zero xs, fun j h1 h2 => absurd h2 (by omega), by rw [partsN_zero]; rfl, by simp, Own.nil_ _ _, Below.refl _ _⟩
  case round =>
    obtain ⟨wo, rfl⟩ : ∃ x, x = wr := ⟨_, rfl⟩
    obtain ⟨t, K, L, ht, rfl, rfl, hK, HC, HKN, HL, hLl, HO, HB⟩ := hrel
    by_cases ht0 : 0 < t
    · obtain ⟨u, rfl⟩ : ∃ u, t = u + 1 := ⟨t - 1, by omega⟩
      have htu : ((u + 1 : Nat) : Int) - 1 = u := by omega
      rw [htu]
      have hun : u < n := by omega
      obtain ⟨x, hx, hxe⟩ := HF1.out u hun
      have hcx := (HB.out.cell (p := ⟨g, u, none⟩) hg1).trans (HCC.out u hun)
      rw [hxe] at hcx
      have HXE := Lib.hid hxe
      have HXo := Lib.hid (HX1.out.below HB.out)
      have HBo := Lib.hid (Below.then HB1.out HB.out)
      have hRx := (HRF.out x hx).2.2.2
      have hR1 := (HRF.out x hx).1
      have hRc := Lib.hid (HRF.out x hx).2.1
      have k1 := quiet_below (w := wo) (fun W hW => reach_any n sl xs x W ((HR.out.below HBo.out).below hW) HP.out (by rw [HN.out]; exact hx))
      have d1 := cell_regrown HXo.out.1
      have d2 := cell_regrown HXo.out.2
      have d3 := cell_regrown hcx
      have i1 : (0 : Int) ≤ u := by omega
      have i2 : (u : Int) < n := by omega
      clear hxe
      go_wp2_with fail
      clear hcx
      refine wp_region_below (by kernel_rfl) (by kernel_rfl) ?_
      repeat (go_big_quiet_step (first | (with_reducible exact k1 _ _)))
      refine wpQuiet_nil ?_
      intro wq hbq0
      have HBQ := Lib.hid hbq0
      have HBq := Lib.hid (Below.then HB.out hbq0)
      have HOq := Lib.hid (HO.out.below hbq0)
      have hcq := (HBq.out.cell (p := ⟨g, u, none⟩) hg1).trans (HCC.out u hun)
      rw [HXE.out] at hcq
      clear hbq0 d1 d2 d3 k1
      generalize hRe : reachN xs x = R at *
      have HRE := Lib.hid hRe
      clear hRe
      have hbt := bit_test0 K x
      have hand := i64_andNot_nat R K (by omega) (by omega)
      have hor := i64_or_nat K R (by omega) (by omega)
      have hszq := HBq.out.size
      rcases q : K.testBit x with _ | _
      · rw [q] at hbt
        have hlow : ∀ y, y < n → scK xs y < scK xs x → K.testBit y = true := fun y hy hyx => by
          obtain ⟨i', hi', hye⟩ := HF2.out y hy
          rcases Nat.lt_trichotomy i' u with h1 | h1 | h1
          · have := HF3.out i' u y x h1 hun hye HXE.out
            omega
          · subst h1
            have h2 := HXE.out
            rw [hye] at h2
            have : y = x := by omega
            subst this
            omega
          · exact HKN.out i' (by omega) hi' y hye
        have hpm := HPM.out K x hK HC.out hx q hlow
        rw [HRE.out] at hpm
        obtain ⟨m1, m2, m3⟩ := hpm
        have h0 : R ≠ 0 := by intro e; rw [e] at hR1; simp at hR1
        have hps := HPS.out R hRx hRc.out h0
        rw [m3, ← m1] at hps
        have HST : Hid ((L ++ [less R K]).reverse = partsN xs R) := by
          unfold Hid
          rw [List.reverse_append, HL.out, hps]
          rfl
        have HKN2 : Hid (∀ j, u ≤ j → j < n → ∀ a : Nat, (ordS xs).getD j 0 = (a : Int) → R.testBit a = true) := fun j hj hjn a hja => by
          by_cases e : j = u
          · subst e
            have h2 := HXE.out
            rw [hja] at h2
            have : a = x := by omega
            subst this
            exact hR1
          · have := HKN.out j (by omega) hjn a hja
            rw [← m2, Nat.testBit_or, this]; rfl
        rw [m2] at hor
        have HM := Lib.hid hps
        have ho := HOq.out
        have hln : (nI L).length = L.length := nI_len L
        clear m1 m2 m3 hps hlow
        generalize less R K = D at *
        go_wp2_with (at_builtin; refine wp_append1 wq rfl (.tmp 31) (.tmp 35) rfl w1.heap.size _ (nI L) (D : Int) (by simp [Act.eval]) ho (by simp [Act.eval]) (by omega) (by exact hszq) ?_; intro v' w7 hown1 hg1; have HO7 := Lib.hid hown1; have HB7 := Lib.hid (HBq.out.grown hg1 hszq (fun k hk => (ho.lt k hk).1)); clear hown1 hg1)
        go_roundw
        case rel => exact ⟨u, R, L ++ [D], by omega, rfl, rfl, hRx, hRc.out, HKN2.out, HST.out, by rw [List.length_append, List.length_singleton]; omega, by rw [nI_snoc]; exact HO7.out, HB7.out⟩
        case measure => simp [intOf] <;> omega
      · rw [q] at hbt
        have HKN2 : Hid (∀ j, u ≤ j → j < n → ∀ a : Nat, (ordS xs).getD j 0 = (a : Int) → K.testBit a = true) := fun j hj hjn a hja => by
          by_cases e : j = u
          · subst e
            have h2 := HXE.out
            rw [hja] at h2
            have : a = x := by omega
            subst this
            exact q
          · exact HKN.out j (by omega) hjn a hja
        go_wp2
        go_roundw
        case rel => exact ⟨u, K, L, by omega, rfl, rfl, hK, HC.out, HKN2.out, HL.out, by omega, HOq.out, HBq.out⟩
        case measure => simp [intOf] <;> omega
    · obtain rfl : t = 0 := by omega
      have hKf : K = 2 ^ n - 1 := full_all hK (fun a ha => by
        obtain ⟨i', hi', hye⟩ := HF2.out a ha
        exact HKN.out i' (by omega) hi' a hye)
      have hp2 := Nat.pow_le_pow_right (show 0 < 2 by decide) hn8.1
      have hps := HPS.out K hK HC.out (by omega)
      have hlL : 0 < L.length := by
        have := congrArg List.length HL.out
        rw [hps, List.length_reverse, List.length_cons] at this
        omega
      have HLR : Hid ((nI L).reverse = nI (partsN xs (2 ^ n - 1))) := by
        unfold Hid nI
        rw [← List.map_reverse, HL.out, hKf]
      obtain ⟨m, hm⟩ : ∃ m, L.length = m := ⟨_, rfl⟩
      obtain ⟨g2, c2, rfl, -, hc2, hmc2, -, -⟩ := HO.out.at_ (n := m) (by rw [nI_len]; exact hm) (by omega)
      have HOo := Lib.hid HO.out
      have HM : Hid ((nI L).length = m) := by unfold Hid; rw [nI_len]; exact hm
      have hszo := HB.out.size
      have hmn : m ≤ 8 := by omega
      have hm1 : 1 ≤ m := by omega
      clear hps hp2 hm
      go_wp2_with fail
      refine (reverse_any (nI L) m w1.heap.size g2 c2 wo HM.out hm1 (by omega) hszo hc2 hmc2 HOo.out).mono ?_
      rintro e w9 ⟨rfl, ho9, hb9⟩
      rw [HLR.out] at ho9
      have HO9 := Lib.hid (ho9.mono HB1.out.size)
      have HB9 := Lib.hid (Below.then HB1.out (HB.out.trans hb9))
      clear ho9 hb9
      go_wp2
      go_ret
      exact ⟨_, rfl, by rw [HN.out]; exact HO9.out, HB9.out⟩
end Go.Proofs.YtbkiedhaacapbaaGreat

namespace Go.Proofs.YtbkiedhaacapbaaGreat
open Go.RowKit Go.Sort

/-- the i-th of a list goes on a way -/
def wayAt (s : Int) (xs ys : List Int) (i : Nat) : Bool := inB (ys.getD i 0) 0 (s - 1) && (!(containsI (ys.take i) (ys.getD i 0)) && (i == 0 || bitI (xs.getD (ys.getD (i - 1) 0).toNat 0) (ys.getD i 0).toNat))
def wayK (s : Int) (xs ys : List Int) (k : Nat) : Bool := (List.range k).all (wayAt s xs ys)
noncomputable def wayB (s : Int) (xs ys : List Int) : Bool := tourB s xs && wayK s xs ys ys.length
theorem wayK_true {s : Int} {xs ys : List Int} {k : Nat} : wayK s xs ys k = true ↔ ∀ i, i < k → wayAt s xs ys i = true := by simp [wayK]
theorem wayK_no {s : Int} {xs ys : List Int} {k n : Nat} (hk : k < n) (h : wayAt s xs ys k = false) : wayK s xs ys n = false := by
  rcases hq : wayK s xs ys n with _ | _
  · rfl
  · have := wayK_true.1 hq k hk; rw [h] at this; cases this
theorem Rd.take_ {w : World} {A : Option Addr} {n c : Nat} {ys : List Int} (h : Rd w (.slice A n c) ys) (k : Nat) (hk : k ≤ ys.length) : Rd w (.slice A k c) (ys.take k) := by
  obtain ⟨A', c', e, hl, hm, hc⟩ := h
  injection e with e1 e2 e3
  subst e1
  subst e3
  have hl2 : (ys.take k).length = k := by rw [List.length_take]; omega
  refine ⟨A, c, by rw [hl2], by omega, hm, fun h0 => ?_⟩
  obtain ⟨g, off, hA, hg, hx⟩ := hc (by omega)
  refine ⟨g, off, hA, hg, fun j hj => ?_⟩
  rw [hx j (by omega)]
  congr 2
  simp [List.getD_eq_getElem?_getD, show j < k by omega]
theorem wayAt_parts {s : Int} {xs ys : List Int} {i : Nat} (h : wayAt s xs ys i = true) : (0 ≤ ys.getD i 0 ∧ ys.getD i 0 ≤ s - 1) ∧ ys.getD i 0 ∉ ys.take i := by
  unfold wayAt containsI at h
  rw [Bool.and_eq_true, Bool.and_eq_true] at h
  exact ⟨inB_true.1 h.1, by simpa using h.2.1⟩
theorem way_nodup {s : Int} {xs ys : List Int} {k : Nat} (hk : k ≤ ys.length) (h : ∀ j, j < k → wayAt s xs ys j = true) : (ys.take k).Nodup ∧ ∀ y ∈ ys.take k, 0 ≤ y ∧ y ≤ s - 1 := by
  induction k with
  | zero => simp
  | succ k ih =>
    have ih := ih (by omega) (fun j hj => h j (by omega))
    have h1 := wayAt_parts (h k (by omega))
    have e : ys.getD k 0 = ys[k] := by simp [show k < ys.length by omega]
    rw [e] at h1
    rw [List.take_succ_eq_append_getElem (by omega)]
    refine ⟨List.nodup_append.2 ⟨ih.1, by simp, fun a ha b hb => ?_⟩, fun y hy => ?_⟩
    · rw [List.mem_singleton] at hb
      subst hb
      exact fun e => h1.2 (e ▸ ha)
    · rw [List.mem_append, List.mem_singleton] at hy
      rcases hy with hy | rfl
      · exact ih.2 y hy
      · exact h1.1
theorem wayB_len {s : Int} {xs ys : List Int} (h : wayB s xs ys = true) : (ys.length : Int) ≤ s := by
  unfold wayB at h
  rw [Bool.and_eq_true] at h
  have h0 := (tourB_true.1 h.1).1
  have hn := way_nodup (Nat.le_refl _) (wayK_true.1 h.2)
  rw [List.take_length] at hn
  obtain ⟨n, rfl⟩ := Int.eq_ofNat_of_zero_le (by omega : 0 ≤ s)
  have := nodup_le n ys hn.1 (fun y hy => by have := hn.2 y hy; omega)
  omega
theorem wayB_long {s : Int} {xs ys : List Int} (h : s < (ys.length : Int)) : wayB s xs ys = false := by
  rcases hq : wayB s xs ys with _ | _
  · rfl
  · have := wayB_len hq; omega
end Go.Proofs.YtbkiedhaacapbaaGreat

