/- FnExactPartOf: byScore, slices.Reverse. -/
import Derived.Test.YtkcffjojklmbpaaCond
import Derived.Test.YtkcffjojklmbpaaIdx
import Derived.Test.YtkcffjojklmbpaaLev
namespace Go.Proofs.Ytkcffjojklmbpaa
open Go.RowKit Go.Sort
set_option maxRecDepth 100000
def bsC (xs : List Int) (x y : Int) : Int := (scK xs y.toNat : Int) - scK xs x.toNat
def ordS (xs : List Int) : List Int := sortR (fun x y => decide (bsC xs x y < 0)) (idxL xs.length)
theorem ordS_len (xs : List Int) : (ordS xs).length = xs.length := by
  have := sortR_len (fun x y => decide (bsC xs x y < 0)) (idxL xs.length) (Nat.le_refl _)
  rw [List.take_length, idxL_len] at this
  exact this
theorem ins_mem (bef : Int → Int → Bool) (S : List Int) (x y : Int) (h : y = x ∨ y ∈ S) : y ∈ insR bef S x := by
  unfold insR
  rw [List.mem_append, List.mem_cons]
  rcases h with h | h
  · exact .inr (.inl h)
  · rw [← List.take_append_drop (posR bef x S S.length) S, List.mem_append] at h
    exact h.imp id .inr
theorem sort_mem (bef : Int → Int → Bool) (L : List Int) : ∀ i, i ≤ L.length → ∀ y, y ∈ L.take i → y ∈ sortR bef (L.take i) := by
  intro i
  induction i with
  | zero => intro _ y h; simp at h
  | succ i ih =>
    intro hi y h
    rw [sortR_succ bef L (by omega)]
    have e : L.take (i + 1) = L.take i ++ [L.getD i 0] := by
      rw [List.take_succ_eq_append_getElem (by omega), show L.getD i 0 = L[i] by simp [show i < L.length by omega]]
    rw [e, List.mem_append, List.mem_singleton] at h
    refine ins_mem _ _ _ _ ?_
    rcases h with h | h
    · exact .inr (ih (by omega) y h)
    · exact .inl h
theorem posR_after {bef : Int → Int → Bool} {x : Int} {S : List Int} : ∀ {k}, k ≤ S.length → ∀ j, posR bef x S k ≤ j → j < k → bef x (S.getD j 0) = true := by
  intro k
  induction k with
  | zero => intro _ j _ h; omega
  | succ k ih =>
    intro hk j hj hjk
    rcases q : bef x (S.getD k 0) with _ | _
    · rw [posR_stop q] at hj; omega
    · rw [posR_go q] at hj
      by_cases e : j = k
      · subst e; exact q
      · exact ih (by omega) j hj (by omega)
theorem posR_before {bef : Int → Int → Bool} {x : Int} {S : List Int} : ∀ {k}, k ≤ S.length → 0 < posR bef x S k → bef x (S.getD (posR bef x S k - 1) 0) = false := by
  intro k
  induction k with
  | zero => intro _ h; simp [posR] at h
  | succ k ih =>
    intro hk h
    rcases q : bef x (S.getD k 0) with _ | _
    · rw [posR_stop q, Nat.add_sub_cancel]; exact q
    · rw [posR_go q] at h ⊢; exact ih (by omega) h
/-- the greater keys stand first -/
theorem ins_sorted {key : Int → Int} {bef : Int → Int → Bool} (hb : ∀ x y, bef x y = decide (key y < key x)) {S : List Int} {x : Int} (hS : S.Pairwise fun a b => key b ≤ key a) : (insR bef S x).Pairwise fun a b => key b ≤ key a := by
  unfold insR
  have hle := posR_le bef x S S.length
  have hS2 := hS
  rw [← List.take_append_drop (posR bef x S S.length) S, List.pairwise_append] at hS2
  have h1 : ∀ y ∈ S.drop (posR bef x S S.length), key y ≤ key x := fun y hy => by
    obtain ⟨j, hj, rfl⟩ := List.getElem_of_mem hy
    rw [List.length_drop] at hj
    have := posR_after (bef := bef) (x := x) (Nat.le_refl S.length) (posR bef x S S.length + j) (by omega) (by omega)
    rw [hb] at this
    have h2 := of_decide_eq_true this
    rw [List.getElem_drop]
    rw [show S.getD (posR bef x S S.length + j) 0 = S[posR bef x S S.length + j] by simp [show posR bef x S S.length + j < S.length by omega]] at h2
    omega
  have h2 : ∀ y ∈ S.take (posR bef x S S.length), key x ≤ key y := fun y hy => by
    rcases Nat.eq_zero_or_pos (posR bef x S S.length) with h0 | h0
    · rw [h0] at hy; simp at hy
    · have hp := posR_before (Nat.le_refl S.length) h0
      rw [hb] at hp
      have h3 := of_decide_eq_false hp
      have hlt : posR bef x S S.length - 1 < S.length := by omega
      rw [show S.getD (posR bef x S S.length - 1) 0 = S[posR bef x S S.length - 1] by simp [hlt]] at h3
      obtain ⟨j, hj, rfl⟩ := List.getElem_of_mem hy
      rw [List.length_take] at hj
      rw [List.getElem_take]
      by_cases e : j = posR bef x S S.length - 1
      · have : S[j]'(by omega) = S[posR bef x S S.length - 1] := by simp [e]
        rw [this]; omega
      · have := List.pairwise_iff_getElem.1 hS j (posR bef x S S.length - 1) (by omega) hlt (by omega)
        omega
  rw [List.pairwise_append, List.pairwise_cons]
  exact ⟨hS2.1, ⟨h1, hS2.2.1⟩, fun a ha b hb => by
    rw [List.mem_cons] at hb
    rcases hb with rfl | hb
    · exact h2 a ha
    · exact hS2.2.2 a ha b hb⟩
theorem sort_sorted {key : Int → Int} {bef : Int → Int → Bool} (hb : ∀ x y, bef x y = decide (key y < key x)) (L : List Int) : ∀ i, i ≤ L.length → (sortR bef (L.take i)).Pairwise fun a b => key b ≤ key a := by
  intro i
  induction i with
  | zero => intro _; simp [sortR]
  | succ i ih => intro hi; rw [sortR_succ bef L (by omega)]; exact ins_sorted hb (ih (by omega))
theorem ordS_facts (xs : List Int) : (∀ i, i < xs.length → ∃ a : Nat, a < xs.length ∧ (ordS xs).getD i 0 = a) ∧ (∀ a, a < xs.length → ∃ i, i < xs.length ∧ (ordS xs).getD i 0 = (a : Int)) ∧
    (∀ i j a b : Nat, i < j → j < xs.length → (ordS xs).getD i 0 = (a : Int) → (ordS xs).getD j 0 = (b : Int) → scK xs b ≤ scK xs a) := by
  have hl := ordS_len xs
  have hm : ∀ y, y ∈ idxL xs.length → y ∈ ordS xs := fun y hy => by
    have := sort_mem (fun x y => decide (bsC xs x y < 0)) (idxL xs.length) (idxL xs.length).length (Nat.le_refl _) y (by rwa [List.take_length])
    rwa [List.take_length] at this
  have hs : (ordS xs).Pairwise fun a b => (scK xs b.toNat : Int) ≤ scK xs a.toNat := by
    have := sort_sorted (key := fun a => (scK xs a.toNat : Int)) (bef := fun x y => decide (bsC xs x y < 0)) (fun x y => by rw [decide_eq_decide]; unfold bsC; omega) (idxL xs.length) (idxL xs.length).length (Nat.le_refl _)
    rwa [List.take_length] at this
  refine ⟨fun i hi => ?_, fun a ha => ?_, fun i j a b hij hj hia hjb => ?_⟩
  · have h1 : (ordS xs).getD i 0 ∈ ordS xs := getD_memI (by omega)
    have h2 : (ordS xs).getD i 0 ∈ idxL xs.length := mem_sortR (i := (idxL xs.length).length) (Nat.le_refl _) (by rw [List.take_length]; exact h1)
    exact idxL_mem h2
  · have h1 := hm (a : Int) (by unfold idxL; rw [List.mem_map]; exact ⟨a, List.mem_range.2 ha, rfl⟩)
    obtain ⟨i, hi, he⟩ := List.getElem_of_mem h1
    exact ⟨i, by omega, by simp [hi, he]⟩
  · have := List.pairwise_iff_getElem.1 hs i j (by omega) (by omega) hij
    rw [show (ordS xs)[i] = (a : Int) by rw [← hia]; simp [show i < (ordS xs).length by omega], show (ordS xs)[j] = (b : Int) by rw [← hjb]; simp [show j < (ordS xs).length by omega], Int.toNat_natCast, Int.toNat_natCast] at this
    omega
theorem scK_le (xs : List Int) (a : Nat) (h : winsN xs a < 256) : scK xs a ≤ 8 := by unfold scK; rw [pop_mem h]; exact memN_len _ _
set_option maxHeartbeats 1000000 in
theorem bs1_any (n : Nat) (sl : Value) (xs : List Int) (hp : tourP n xs) (a b gt : Nat) (W : World) (hr : Rd W sl xs) (ht : TBox W gt n sl) (ha : a < xs.length) (hb : b < xs.length) :
    Calls Try.prog 102 #[.int .i64 a, .int .i64 b, .pointer (some ⟨gt, 0, none⟩)] W fun e w' => e = .returned (.int .i64 (bsC xs a b)) ∧ Below W.heap.size W w' := by
  have k1 := quiet_below (w := W) (fun W' hW => score_any n sl xs b W' (hr.below hW) hp hb)
  have k2 := quiet_below (w := W) (fun W' hW => score_any n sl xs a W' (hr.below hW) hp ha)
  have h1 := scK_le xs a (tour_wins hp ha).2.2
  have h2 := scK_le xs b (tour_wins hp hb).2.2
  have hF : Hid (bsC xs a b = (scK xs b : Int) - scK xs a) := by unfold Hid bsC; rw [Int.toNat_natCast, Int.toNat_natCast]
  unfold scK at h1 h2 hF
  rw [hF.out]
  generalize popN 8 (winsN xs a) = sa at *
  generalize popN 8 (winsN xs b) = sb at *
  have hw : IntKind.i64.wrap ((sb : Int) - sa) = (sb : Int) - sa := by rw [IntKind.wrap_i64]; omega
  have d1 := cell_regrown ht.1
  have d2 := cell_regrown ht.2
  clear hr ht hp
  go_enter Try.func102, Try.ntmps102
  go_wp2_with fail
  refine wp_region_below (by kernel_rfl) (by kernel_rfl) ?_
  repeat (go_big_quiet_step (first | (with_reducible exact k1 _ _) | (with_reducible exact k2 _ _)))
  refine wpQuiet_nil ?_
  intro wq hbq0
  have HBQ := Lib.hid hbq0
  clear hbq0 d1 d2 k1 k2
  go_wp2
  go_ret
  exact ⟨ret_int (by first | rfl | exact hw | simp [hw]), HBQ.out⟩
set_option maxHeartbeats 2000000 in
theorem byScore_any (n : Nat) (sl : Value) (xs : List Int) (hp : tourP n xs) (w : World) (h : Rd w sl xs) :
    Calls Try.prog 95 #[.agg #[.int .i64 n, sl]] w fun e w' => ∃ v', e = .returned v' ∧ Own w' w.heap.size v' (ordS xs) ∧ Below w.heap.size w w' := by
  have hs := hp.1
  have hsl := hp.2.1
  have HR := Lib.hid h
  have HP := Lib.hid hp
  have hn : xs.length = n := by omega
  have HN := Lib.hid hn
  have hF : Hid (ordS xs = sortR (fun x y => decide (bsC xs x y < 0)) (idxL n)) := by unfold Hid ordS; rw [hn]
  have hE : Enters 102 := fun args W => by kernel_rfl
  clear h hp hn
  go_enter Try.func95, Try.ntmps95
  go_wp2_with fail
  have b0 := below_alloc1 w (.cells #[.int .i64 n, sl] 68)
  have x0 := TBox.new w n (sl) 68
  generalize w.alloc (.cells #[.int .i64 n, sl] 68) = w0 at *
  have HX0 := Lib.hid x0
  have HB0 := Lib.hid b0
  clear x0 b0
  have y0_0 := HX0.out.1
  have y1_0 := HX0.out.2
  go_wp2_with fail
  refine (indices_any n (by omega) w0 (by omega)).mono ?_
  rintro e w4 ⟨rfl, ho4, hb4⟩
  have HO4 := Lib.hid ho4
  have HB4 := Lib.hid hb4
  clear ho4 hb4
  go_wp2_with fail
  refine (sortStable_any 102 #[.pointer (some ⟨w.heap.size, 0, none⟩)] hE (bsC xs) (idxL n) n w0.heap.size w0.heap.size n w4 (idxL_len n) (by omega) (by omega) (Nat.le_refl _) (by omega) HB4.out.size HO4.out (fun x hx y hy W hW => by
    obtain ⟨a, ha, rfl⟩ := idxL_mem hx
    obtain ⟨b, hb, rfl⟩ := idxL_mem hy
    have hWW : Below w0.heap.size w0 W := HB4.out.trans hW
    exact bs1_any n sl xs HP.out a b w.heap.size W (HR.out.below (Below.then HB0.out hWW)) (HX0.out.below hWW) (by rw [HN.out]; exact ha) (by rw [HN.out]; exact hb))).mono ?_
  rintro e w5 ⟨rfl, ho5, hb5⟩
  have HO5 := Lib.hid ho5
  have HB5 := Lib.hid (HB4.out.trans hb5)
  clear ho5 hb5
  go_wp2
  go_ret
  exact ⟨_, rfl, by rw [hF.out]; exact HO5.out.mono HB0.out.size, Below.then HB0.out HB5.out⟩
end Go.Proofs.Ytkcffjojklmbpaa
