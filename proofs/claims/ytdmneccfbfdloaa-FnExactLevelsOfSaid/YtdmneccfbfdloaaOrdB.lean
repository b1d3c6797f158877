/- OrderBy. -/
import Derived.Test.YtdmneccfbfdloaaStabN
import Derived.Test.YtdmneccfbfdloaaCmpc
namespace Go.Proofs.Ytdmneccfbfdloaa
open Go.RowKit Go.Sort
set_option maxRecDepth 100000
noncomputable def obL (xs : List Int) : List Int := if 40 < xs.length then [] else ordK xs xs.length
theorem obL_len (xs : List Int) : (obL xs).length ≤ 40 := by
  unfold obL
  split
  · simp
  · rw [ordK_len]; omega
def kOf (L : List Int) (x : Int) : Int := - L.getD x.toNat 0
theorem idsL_lt (n : Nat) : (idsL n).Pairwise (· < ·) := by
  unfold idsL
  rw [List.pairwise_map]
  exact List.pairwise_lt_range.imp fun h => by omega
theorem ordK_sorted (L : List Int) (n : Nat) : (ordK L n).Pairwise (LtK (kOf L)) ∧ (ordK L n).Perm (idsL n) := by
  unfold ordK
  refine sortR_sorted (idsL n) (fun x _ y _ => ?_) (idsL_lt n)
  unfold befK kOf
  rw [decide_eq_decide]
  omega
theorem cmpC_lt (x y : Int) : cmpC x y < 0 ↔ x < y := by
  unfold cmpC
  by_cases h1 : x < y
  · simp [h1]
  · rw [if_neg h1]
    by_cases h2 : y < x <;> simp [h2, h1]
set_option maxHeartbeats 2000000 in
theorem indices_zero (w : World) :
    Calls Try.prog 34 #[.int .i64 0] w fun e w' => e = .returned (.slice (some ⟨w.heap.size, 0, none⟩) 0 0) ∧ Own w' w.heap.size (.slice (some ⟨w.heap.size, 0, none⟩) 0 0) [] ∧ Below w.heap.size w w' := by
  obtain ⟨i0, hi, hz0, hz1, hz2⟩ := info_parts i64_info
  go_enter Try.func34, Try.ntmps34
  go_wp2_with (at_make; refine wpList_make_full _ rfl _ _ 22 rfl w.heap.size 3 i0 (.int .i64 0) 1 Try.underlying22 hi hz0 hz1 _ _ _ _ 0 rfl rfl rfl rfl (by rw [hz2]; omega) (by unfold maxLen; omega) (Nat.le_refl _) ?_; intro w1 hown hg1; have HB1 := Lib.hid ((Below.refl w.heap.size w).grown hg1 (Nat.le_refl _) (by simp)); have HOWN := Lib.hid hown; clear hown hg1)
  have HO1 : Hid (Own w1 w.heap.size (.slice (some ⟨w.heap.size, 0, none⟩) 0 0) (List.replicate 0 0)) := by
    have ho := HOWN.out
    rw [ints_made'] at ho
    unfold Hid Own
    rw [List.length_replicate]
    exact ho
  clear HOWN
  go_loopw [9] (fun i wr => i = .int .i64 0 ∧ wr = w1) (fun i _ => 0)
  case atStart => exact ⟨rfl, rfl⟩
  case round =>
    obtain ⟨rfl, rfl⟩ := hrel
    go_wp2
    go_ret
    exact ⟨rfl, HO1.out, HB1.out⟩
theorem indices40 (n : Nat) (hn : n ≤ 40) (w : World) :
    Calls Try.prog 34 #[.int .i64 n] w fun e w' => e = .returned (.slice (some ⟨w.heap.size, 0, none⟩) n n) ∧ Own w' w.heap.size (.slice (some ⟨w.heap.size, 0, none⟩) n n) (idxL n) ∧ Below w.heap.size w w' := by
  rcases Nat.eq_zero_or_pos n with h | h
  · subst h
    exact indices_zero w
  · exact indices_any n (by omega) w h
theorem sort40s_any (F : FuncId) (caps : Array Value) (hE : Enters F) (cf : Int → Int → Int) (K : Int → Int) (L : List Int) (n base g c : Nat) (w : World) (hl : L.length = n) (hn : n ≤ 40) (hL : L.Pairwise (· < ·)) (hc : c ≤ 4611686018427387904) (hnc : n ≤ c) (hbase : base ≤ w.heap.size)
    (h : Own w base (.slice (some ⟨g, 0, none⟩) n c) L)
    (hK : ∀ x ∈ L, ∀ y ∈ L, (cf x y < 0 ↔ K x < K y))
    (hf : ∀ x ∈ L, ∀ y ∈ L, ∀ w', Below base w w' → Calls Try.prog F (#[.int .i64 x, .int .i64 y] ++ caps) w' fun e w'' => e = .returned (.int .i64 (cf x y)) ∧ Below w'.heap.size w' w'') :
    Calls Try.prog 35 #[.slice (some ⟨g, 0, none⟩) n c, .func (.func F) #[] caps] w fun e w' => e = .returned (.tuple #[]) ∧ ∃ M, M.Perm L ∧ M.Pairwise (LtK K) ∧ Own w' base (.slice (some ⟨g, 0, none⟩) n c) M ∧ Below base w w' := by
  have HI := Lib.hid (sort40_any F caps hE cf K L n base g c w hl hn hL hc hnc hbase h hK hf)
  clear h hf hK
  go_enter Try.func35, Try.ntmps35
  go_wp2_with fail
  refine HI.out.mono ?_
  rintro e w1 ⟨rfl, M, hp, hs, ho, hb⟩
  have HP := Lib.hid hp
  have HS := Lib.hid hs
  have HO := Lib.hid ho
  have HB := Lib.hid hb
  clear ho hb hp hs
  go_wp2
  go_end0
  exact ⟨rfl, M, HP.out, HS.out, HO.out, HB.out⟩
set_option maxHeartbeats 2000000 in
theorem implOrderBy (v : Value) (L : List Int) (w : World) (h : Rd w v L) :
    Calls Try.prog 9 #[v] w fun e w' => ∃ v', e = .returned v' ∧ Own w' w.heap.size v' (obL L) ∧ Below w.heap.size w w' := by
  have HR := Lib.hid h
  obtain ⟨A, c, rfl, -, hm, -⟩ := h
  unfold maxLen at hm
  have HOB : Hid (obL L = if 40 < L.length then [] else ordK L L.length) := rfl
  generalize hn : L.length = n at *
  have HN := Lib.hid hn
  clear hn
  have hE : Enters 36 := fun args W => by kernel_rfl
  go_enter Try.func9, Try.ntmps9
  have b0 := below_alloc1 w (.cells #[.slice A n c] 22)
  have z0 : (w.alloc (.cells #[.slice A n c] 22)).cell? ⟨w.heap.size, 0, none⟩ = some (.slice A n c) := by simp
  have HB0 := Lib.hid b0
  have HZ0 := Lib.hid z0
  clear b0
  by_cases hlt : 40 < n
  · go_wp2
    go_ret
    exact ⟨_, rfl, by rw [HOB.out, if_pos hlt]; exact Own.nil_ _ _, HB0.out⟩
  · go_wp2_with fail
    refine (indices40 n (by omega) _).mono ?_
    rintro e w4 ⟨rfl, ho4, hb4⟩
    generalize w.alloc (.cells #[.slice A n c] 22) = w3 at *
    have HO4 := Lib.hid ho4
    have HB4 := Lib.hid hb4
    clear ho4 hb4 z0
    go_wp2_with fail
    refine (sort40s_any 36 #[.pointer (some ⟨w.heap.size, 0, none⟩)] hE (fun x y => cmpC (L.getD y.toNat 0) (L.getD x.toNat 0)) (kOf L) (idxL n) n w3.heap.size w3.heap.size n w4 (idxL_len n) (by omega) (by rw [idx_ids]; exact idsL_lt n) (by omega) (Nat.le_refl _) HB4.out.size HO4.out (fun x _ y _ => by rw [cmpC_lt]; unfold kOf; omega) (fun x hx y hy W hW => by
      obtain ⟨a, ha, rfl⟩ := idxL_mem hx
      obtain ⟨b, hb, rfl⟩ := idxL_mem hy
      have hWW : Below w3.heap.size w3 W := HB4.out.trans hW
      exact ord1_any L _ w.heap.size a b W ((hWW.cell (p := ⟨w.heap.size, 0, none⟩) (World.block_lt_of_cell? _ _ HZ0.out)).trans HZ0.out) (HR.out.below (Below.then HB0.out hWW)) (by rw [HN.out]; exact ha) (by rw [HN.out]; exact hb))).mono ?_
    rintro e w5 ⟨rfl, M, hp, hs, ho5, hb5⟩
    have HE : Hid (M = ordK L n) := Lib.hid (ltK_unique hs (ordK_sorted L n).1 (hp.trans (by rw [idx_ids]; exact (ordK_sorted L n).2.symm)))
    have HO5 := Lib.hid ho5
    have HB5 := Lib.hid (HB4.out.trans hb5)
    clear ho5 hb5 hp hs
    go_wp2
    go_ret
    exact ⟨_, rfl, by rw [HOB.out, if_neg hlt, ← HE.out]; exact HO5.out.mono HB0.out.size, Below.then HB0.out HB5.out⟩
set_option maxHeartbeats 2000000 in
theorem specOrderBy (v : Value) (L : List Int) (w : World) (h : Rd w v L) :
    Calls Try.prog 7 #[v] w fun e w' => ∃ v', e = .returned v' ∧ Own w' w.heap.size v' (obL L) ∧ Below w.heap.size w w' := by
  have HR := Lib.hid h
  obtain ⟨A, c, rfl, -, hm, -⟩ := h
  unfold maxLen at hm
  have HOB : Hid (obL L = if 40 < L.length then [] else ordK L L.length) := rfl
  by_cases hlt : 40 < L.length
  · generalize hn : L.length = n at *
    have HN := Lib.hid hn
    clear hn
    go_enter Try.func7, Try.ntmps7
    go_wp2
    go_ret
    exact ⟨_, rfl, by rw [HOB.out, if_pos hlt]; exact Own.nil_ _ _, (Below.refl _ _)⟩
  · have HL := Lib.hid (l09Order_any (.slice A L.length c) L w HR.out (by omega))
    generalize hn : L.length = n at *
    have HN := Lib.hid hn
    clear hn
    go_enter Try.func7, Try.ntmps7
    go_wp2_with fail
    refine HL.out.mono ?_
    rintro e w3 ⟨v3, rfl, ho3, hb3⟩
    have HO3 := Lib.hid ho3
    have HB3 := Lib.hid hb3
    clear ho3 hb3
    go_wp2
    go_ret
    exact ⟨_, rfl, by rw [HOB.out, if_neg hlt]; exact HO3.out, HB3.out⟩
end Go.Proofs.Ytdmneccfbfdloaa
