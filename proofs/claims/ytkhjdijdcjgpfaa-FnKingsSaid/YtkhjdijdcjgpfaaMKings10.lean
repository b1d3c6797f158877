/- Texts put together: Draw2. -/
import Derived.Test.YtkhjdijdcjgpfaaMKings09
import Derived.Test.YtkhjdijdcjgpfaaMKings05
namespace Go.Proofs.Ytkhjdijdcjgpfaa
open Go.RowKit Go.Sort
set_option maxRecDepth 100000
set_option maxHeartbeats 8000000 in
theorem l02Draw_any (lo : Nat) (w : World) (g : Nat) (cv : Value) (most : Nat) (hm1 : 1 ≤ most) (hm8 : most ≤ 8) (hc : CurB lo w g cv) :
    Calls Try.prog 110 #[.pointer (some ⟨g, 0, none⟩), .int .i64 most] w fun e w' => ∃ (n : Nat) (sl : Value) (xs : List Int), e = .returned (.agg #[.int .i64 n, sl]) ∧ n ≤ most ∧ tourP n xs ∧ Own w' w.heap.size sl xs ∧ CurB lo w' g cv ∧ w.grownBy w' (some g) := by
  have hgw := hc.lt
  have HC0 := Lib.hid (hc.below (below_alloc1 w (.cells #[.int .i64 0, .slice none 0 0] 25)))
  have HT0 := Lib.hid (BoxF.new w 0 (.slice none 0 0) 25)
  have HG0 : Hid (w.grownBy (w.alloc (.cells #[.int .i64 0, .slice none 0 0] 25)) (some g)) := Lib.hid (grown_belowC ⟨rfl, rfl, rfl, Nat.le_refl _, fun _ _ _ => rfl⟩ (below_alloc1 _ _))
  have hrb : w.heap.size ≠ g := by omega
  clear hc
  go_enter Try.func110, Try.ntmps110
  go_wp2_with fail
  generalize w.alloc (.cells #[.int .i64 0, .slice none 0 0] 25) = w0 at *
  go_wp2_with fail
  refine (l01Below_any lo _ g cv most hm1 (by omega) HC0.out).mono ?_
  rintro e w1 ⟨x, rfl, hx, hc1, hg1⟩
  have HC1 := Lib.hid hc1
  have HT1 := Lib.hid (HT0.out.kept hg1 (by simpa using hrb))
  have HG1 := Lib.hid (HG0.out.trans hg1)
  clear hc1 hg1 HC0 HT0 HG0
  obtain ⟨n, hn⟩ : ∃ n : Nat, n = 1 + x := ⟨_, rfl⟩
  have en : (1 : Int) + (x : Int) = (n : Int) := by omega
  have hn1 : 1 ≤ n := by omega
  have hn8 : n ≤ most := by omega
  clear hn
  go_wp2_with fail
  refine (l01Below_lit lo _ g cv 256 256 rfl (by omega) (by omega) HC1.out).mono ?_
  rintro e w2 ⟨x2, rfl, hx2, hc2, hg2⟩
  have HC2 := Lib.hid hc2
  have HT2 := Lib.hid (HT1.out.kept hg2 (by simpa using hrb))
  have HG2 := Lib.hid (HG1.out.trans hg2)
  clear hc2 hg2 HC1 HT1 HG1
  go_wp2_with fail
  refine (l01Below_lit lo _ g cv 256 256 rfl (by omega) (by omega) HC2.out).mono ?_
  rintro e w3 ⟨x3, rfl, hx3, hc3, hg3⟩
  have HC3 := Lib.hid hc3
  have HT3 := Lib.hid (HT2.out.kept hg3 (by simpa using hrb))
  have HG3 := Lib.hid (HG2.out.trans hg3)
  clear hc3 hg3 HC2 HT2 HG2
  go_wp2_with fail
  refine (l01Below_lit lo _ g cv 256 256 rfl (by omega) (by omega) HC3.out).mono ?_
  rintro e w4 ⟨x4, rfl, hx4, hc4, hg4⟩
  have HC4 := Lib.hid hc4
  have HT4 := Lib.hid (HT3.out.kept hg4 (by simpa using hrb))
  have HG4 := Lib.hid (HG3.out.trans hg4)
  clear hc4 hg4 HC3 HT3 HG3
  go_wp2_with fail
  refine (l01Below_lit lo _ g cv 16 16 rfl (by omega) (by omega) HC4.out).mono ?_
  rintro e w5 ⟨x5, rfl, hx5, hc5, hg5⟩
  have HC5 := Lib.hid hc5
  have HT5 := Lib.hid (HT4.out.kept hg5 (by simpa using hrb))
  have HG5 := Lib.hid (HG4.out.trans hg5)
  clear hc5 hg5 HC4 HT4 HG4
  go_wp2_with fail
  refine (l02Of_any n hn1 (by omega) _ w5).mono ?_
  rintro e w6 ⟨sl, xs, rfl, hp, ho, hb⟩
  obtain ⟨Y, cy, rfl, -, -, -⟩ := ho.form
  have HP := Lib.hid hp
  have hs5 := HG5.out.size
  have T6 := HT5.out.below hb
  have t0 := T6.1.1
  have t1 := T6.1.2
  have f0 := T6.2 0
  have f1 := T6.2 1
  have hw5 : w.heap.size < w5.heap.size := HT5.out.gt
  have HO := Lib.hid ((ho.kept (setCell_grown _ ⟨w.heap.size, 0, none⟩ (.int .i64 n)) (own_ne (fun k hk => (ho.lt k hk).1) hw5)).kept (setCell_grown _ ⟨w.heap.size, 1, none⟩ (.slice Y xs.length cy)) (own_ne (fun k hk => (ho.lt k hk).1) hw5))
  have HC := Lib.hid (((HC5.out.below hb).kept (setCell_grown _ ⟨w.heap.size, 0, none⟩ (.int .i64 n)) (fun k hk => by simp at hk; have := HC5.out.le; exact ⟨by omega, by omega⟩)).kept (setCell_grown _ ⟨w.heap.size, 1, none⟩ (.slice Y xs.length cy)) (fun k hk => by simp at hk; have := HC5.out.le; exact ⟨by omega, by omega⟩))
  have HG := Lib.hid (grown_newC (grown_newC (grown_belowC HG5.out (Below.mono hb (Nat.le_of_lt hw5))) (setCell_grown _ ⟨w.heap.size, 0, none⟩ (.int .i64 n)) (fun k hk => by simp at hk; omega)) (setCell_grown _ ⟨w.heap.size, 1, none⟩ (.slice Y xs.length cy)) (fun k hk => by simp at hk; omega))
  have R0 : Hid (((w6.setCell ⟨w.heap.size, 0, none⟩ (.int .i64 n)).setCell ⟨w.heap.size, 1, none⟩ (.slice Y xs.length cy)).cell? ⟨w.heap.size, 0, none⟩ = some (.int .i64 n)) := (World.cell?_setCell_other _ _ _ _ (by simp)).trans (World.cell?_setCell_same _ _ _ t0)
  have R1 : Hid (((w6.setCell ⟨w.heap.size, 0, none⟩ (.int .i64 n)).setCell ⟨w.heap.size, 1, none⟩ (.slice Y xs.length cy)).cell? ⟨w.heap.size, 1, none⟩ = some (.slice Y xs.length cy)) := World.cell?_setCell_same _ _ _ ((World.cell?_setCell_other _ _ _ _ (by simp)).trans t1)
  clear ho hb T6 hp HC5 HT5 HG5
  go_wp2
  have r0 := R0.out
  have r1 := R1.out
  refine bodyPost_ret (v := .agg #[.int .i64 n, .slice Y xs.length cy]) (by simp only [results, Try.results110]; simp [go_sem, r0, r1]) rfl ⟨n, _, xs, rfl, hn8, HP.out, HO.out.mono (by omega), HC.out, HG.out⟩
theorem perm_ins {i : Nat} (k : Nat) {S : List Int} (h : PermP i S) : PermP (i + 1) (S.take k ++ [(i : Int)] ++ S.drop k) := by
  have hp : (S.take k ++ [(i : Int)] ++ S.drop k).Perm ((i : Int) :: S) := by
    have h1 : (S.take k ++ [(i : Int)] ++ S.drop k) = S.take k ++ (i : Int) :: S.drop k := by simp
    rw [h1]
    refine List.perm_middle.trans ?_
    rw [List.take_append_drop]
  refine ⟨by rw [hp.length_eq, List.length_cons, h.1], fun x hx => ?_, ?_⟩
  · rcases List.mem_cons.1 (hp.mem_iff.1 hx) with rfl | hx
    · omega
    · have := h.2.1 x hx; omega
  · rw [hp.nodup_iff, List.nodup_cons]
    exact ⟨fun hm => by have := h.2.1 _ hm; omega, h.2.2⟩
set_option maxHeartbeats 8000000 in
theorem l02Order_any (lo : Nat) (w : World) (g : Nat) (cv : Value) (n : Nat) (hn8 : n ≤ 8) (hc : CurB lo w g cv) :
    Calls Try.prog 96 #[.pointer (some ⟨g, 0, none⟩), .int .i64 n] w fun e w' => ∃ (v : Value) (ns : List Int), e = .returned v ∧ PermP n ns ∧ Own w' w.heap.size v ns ∧ CurB lo w' g cv ∧ w.grownBy w' (some g) := by
  have hgw0 := hc.lt
  have HC0 := Lib.hid (hc.below (below_alloc1 w (.cells #[] 3)))
  have HG0 : Hid (w.grownBy (w.alloc (.cells #[] 3)) (some g)) := Lib.hid (grown_belowC ⟨rfl, rfl, rfl, Nat.le_refl _, fun _ _ _ => rfl⟩ (below_alloc1 _ _))
  have HL0 := Lib.hid (Own.lit w w.heap.size [] (Nat.le_refl _) (by simp))
  clear hc
  go_enter Try.func96, Try.ntmps96
  go_wp2
  go_loopw [5, 6] (fun l t wr => ∃ (i gl d : Nat) (S : List Int), i ≤ n ∧ t = .int .i64 i ∧ l = .slice (some ⟨gl, 0, none⟩) i d ∧ i ≤ d ∧ d ≤ 9223372036854775807 ∧ S.length = i ∧ Hid (PermP i S) ∧ Hid (Own wr w.heap.size (.slice (some ⟨gl, 0, none⟩) i d) S) ∧ Hid (CurB lo wr g cv) ∧ Hid (w.grownBy wr (some g))) (fun _ t _ => n - (intOf t).toNat)
  case atStart => exact ⟨0, _, 0, [], by omega, rfl, rfl, by omega, by omega, rfl, Lib.hid ⟨rfl, fun x hx => absurd hx (by simp), List.nodup_nil⟩, HL0, HC0, HG0⟩
  case round =>
    obtain ⟨wo, rfl⟩ : ∃ x, x = wr := ⟨_, rfl⟩
    obtain ⟨i, gl, d, S, hi, rfl, rfl, hid, hd, hSl, HP, HO, HC, HG⟩ := hrel
    clear HC0 HG0 HL0
    by_cases hlt : i < n
    · have ei : IntKind.i64.wrap ((i : Int) + 1) = ((i + 1 : Nat) : Int) := by rw [IntWalk.i64_in _ (by omega)]; rfl
      go_wp2_with fail
      refine (l01Below_lit lo _ g cv ((i : Int) + 1) (i + 1) (by omega) (by omega) (by omega) HC.out).mono ?_
      rintro e wp ⟨k, rfl, hk, hc1, hg1⟩
      have HO' := Lib.hid (HO.out.kept hg1 (own_ne (fun k hk => (HO.out.lt k hk).1) hgw0))
      have HC' := Lib.hid hc1
      have HG' := Lib.hid (HG.out.trans hg1)
      clear hc1 hg1 HO HC HG
      have HO := HO'
      have HC := HC'
      have HG := HG'
      clear HO' HC' HG'
      have hki : k ≤ i := by omega
      have hqt : (S.take k).length = k := by rw [List.length_take, hSl]; omega
      have hqd : (S.drop k).length = i - k := by rw [List.length_drop, hSl]
      have HE := Lib.hid (Own.lit wp wp.heap.size [] (Nat.le_refl _) (by simp))
      have bE := below_alloc1 wp (.cells #[] 3)
      have HOC := Lib.hid (fun (k : Nat) (hk : k < i) => (HO.out.at1 hSl (by omega)).1 k hk)
      have hgw := (HO.out.lt gl rfl).2
      have HC1 : Hid (∀ j, j < (S.take k).length → (wp.alloc (.cells #[] 3)).cell? ((⟨gl, 0, none⟩ : Addr).add j) = some (.int .i64 ((S.take k).getD j 0))) := fun j hj => by
        rw [hqt] at hj
        rw [Addr.add_lit, Nat.zero_add, bE.cell (p := ⟨gl, j, none⟩) hgw, HOC.out j (by omega)]
        simp [List.getD_eq_getElem?_getD, List.getElem?_take, hj]
      have HBE := Lib.hid bE
      have HLN : Hid ((S.take k ++ [(i : Int)] ++ S.drop k).length = i + 1) := Lib.hid (by rw [List.length_append, List.length_append, hqt, hqd]; simp; omega)
      clear bE ei
      by_cases hdq : d = k
      case pos =>
            go_wp2_with (first
            | (at_builtin; refine wp_appendN (wp.alloc (.cells #[] 3)) rfl (.tmp 19) (.tmp 22) rfl wp.heap.size _ [] rfl HE.out ⟨gl, 0, none⟩ d (S.take k) (by rw [hqt]; simp [Act.eval] <;> omega) HC1.out (by simp; omega) (by simp) ?_; intro v1 w1 ho1 hg1; have HO1 : Hid (Own w1 wp.heap.size v1 (S.take k)) := ho1; have HB1 := Lib.hid (Below.grown HBE.out hg1 (by simp) (fun k hk => (HE.out.lt k hk).1)); clear ho1 hg1)
            | (at_builtin; refine wp_append1 w1 rfl (.tmp 24) (.tmp 26) rfl wp.heap.size _ (S.take k) (i : Int) rfl HO1.out (by simp [Act.eval]) (by omega) HB1.out.size ?_; intro v2 w2 ho2 hg2; have HO2 := Lib.hid ho2; have HB2 := Lib.hid (below_append HB1.out hg2 HO1.out (Nat.le_refl _) HB1.out.size); clear ho2 hg2)
            | (at_builtin; refine wp_appendN w2 rfl (.tmp 28) (.tmp 31) rfl wp.heap.size _ (S.take k ++ [(i : Int)]) rfl HO2.out ⟨gl, 0, none⟩ (d - k) (S.drop k) (by rw [hqd]; simp [Act.eval] <;> omega) (fun j hj => by rw [hqd] at hj; omega) (by simp; omega) HB2.out.size ?_; intro v3 w3 ho3 hg3; obtain ⟨Y3, c3, hv3, hc3, hl3, hY3⟩ := ho3.form; rw [HLN.out] at hv3 hl3 hY3; obtain ⟨g3, rfl, hg3a, hg3b⟩ := hY3 (by omega); subst hv3; have HO3 := Lib.hid ho3; have HB3 := Lib.hid (Below.grown HB2.out hg3 HB2.out.size (fun k hk => (HO2.out.lt k hk).1)); clear ho3 hg3))
            have hln := HLN.out
            unfold maxLen at hc3
            have HPN := Lib.hid (perm_ins k HP.out)
            have HCN := Lib.hid (HC.out.below HB3.out)
            have HGN := Lib.hid (grown_belowC HG.out (Below.mono HB3.out HG.out.size))
            have HON := Lib.hid (HO3.out.mono HG.out.size)
            go_roundw
            case rel => exact ⟨i + 1, g3, c3, _, by omega, by go_num, rfl, by omega, by omega, hln, HPN, HON, HCN, HGN⟩
            case measure => simp [intOf]; omega
      case neg =>
            go_wp2_with (first
            | (at_builtin; refine wp_appendN (wp.alloc (.cells #[] 3)) rfl (.tmp 19) (.tmp 22) rfl wp.heap.size _ [] rfl HE.out ⟨gl, 0, none⟩ d (S.take k) (by rw [hqt]; simp [Act.eval] <;> omega) HC1.out (by simp; omega) (by simp) ?_; intro v1 w1 ho1 hg1; have HO1 : Hid (Own w1 wp.heap.size v1 (S.take k)) := ho1; have HB1 := Lib.hid (Below.grown HBE.out hg1 (by simp) (fun k hk => (HE.out.lt k hk).1)); clear ho1 hg1)
            | (at_builtin; refine wp_append1 w1 rfl (.tmp 24) (.tmp 26) rfl wp.heap.size _ (S.take k) (i : Int) rfl HO1.out (by simp [Act.eval]) (by omega) HB1.out.size ?_; intro v2 w2 ho2 hg2; have HO2 := Lib.hid ho2; have HB2 := Lib.hid (below_append HB1.out hg2 HO1.out (Nat.le_refl _) HB1.out.size); clear ho2 hg2)
            | (at_builtin; refine wp_appendN w2 rfl (.tmp 28) (.tmp 31) rfl wp.heap.size _ (S.take k ++ [(i : Int)]) rfl HO2.out ⟨gl, k, none⟩ (d - k) (S.drop k) (by rw [hqd]; simp [Act.eval, hdq]) (fun j hj => by rw [Addr.add_lit, HB2.out.cell (p := ⟨gl, k + j, none⟩) hgw, HOC.out (k + j) (by omega)]; simp [List.getD_eq_getElem?_getD, List.getElem?_drop]) (by simp; omega) HB2.out.size ?_; intro v3 w3 ho3 hg3; obtain ⟨Y3, c3, hv3, hc3, hl3, hY3⟩ := ho3.form; rw [HLN.out] at hv3 hl3 hY3; obtain ⟨g3, rfl, hg3a, hg3b⟩ := hY3 (by omega); subst hv3; have HO3 := Lib.hid ho3; have HB3 := Lib.hid (Below.grown HB2.out hg3 HB2.out.size (fun k hk => (HO2.out.lt k hk).1)); clear ho3 hg3))
            have hln := HLN.out
            unfold maxLen at hc3
            have HPN := Lib.hid (perm_ins k HP.out)
            have HCN := Lib.hid (HC.out.below HB3.out)
            have HGN := Lib.hid (grown_belowC HG.out (Below.mono HB3.out HG.out.size))
            have HON := Lib.hid (HO3.out.mono HG.out.size)
            go_roundw
            case rel => exact ⟨i + 1, g3, c3, _, by omega, by go_num, rfl, by omega, by omega, hln, HPN, HON, HCN, HGN⟩
            case measure => simp [intOf]; omega
    · obtain rfl : n = i := by omega
      go_wp2
      go_ret
      exact ⟨_, S, rfl, HP.out, HO.out, HC.out, HG.out⟩
end Go.Proofs.Ytkhjdijdcjgpfaa

