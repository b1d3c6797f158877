/- Texts put together: Srt3, MkR, MkT, SmT, FrameB, HTk. -/
import Derived.Test.YthoodjjjklbggaaDoorMRotational04
import Derived.Test.YthoodjjjklbggaaDoorMRotational21
import Derived.Test.YthoodjjjklbggaaDoorMRotational18
import Derived.Test.YthoodjjjklbggaaDoorMRotational08
import Derived.Test.YthoodjjjklbggaaDoorMRotational01
import Derived.Test.YthoodjjjklbggaaDoorMRotational20
namespace Go.Proofs.YthoodjjjklbggaaDoor
open Go.RowKit Go.Sort
set_option maxRecDepth 100000
theorem ins_perm3 {S pre : List Int} (k : Nat) (x : Int) (h : S.Perm pre) : (S.take k ++ [x] ++ S.drop k).Perm (pre ++ [x]) := by
  have h1 : (S.take k ++ [x] ++ S.drop k) = S.take k ++ x :: S.drop k := by simp
  rw [h1]
  refine List.perm_middle.trans ?_
  rw [List.take_append_drop]
  exact (List.Perm.cons x h).trans (List.perm_append_singleton x pre).symm
theorem ins_sorted3 {S : List Int} {k : Nat} {x : Int} (hk : k ≤ S.length) (h : S.Pairwise (· ≤ ·)) (h1 : 0 < k → S.getD (k - 1) 0 ≤ x) (h2 : ∀ j, k ≤ j → j < S.length → x < S.getD j 0) : (S.take k ++ [x] ++ S.drop k).Pairwise (· ≤ ·) := by
  have hg := List.pairwise_iff_getElem.1 h
  rw [List.append_assoc, List.pairwise_append]
  refine ⟨h.sublist (List.take_sublist k S), ?_, ?_⟩
  · rw [List.singleton_append, List.pairwise_cons]
    refine ⟨fun y hy => ?_, h.sublist (List.drop_sublist k S)⟩
    obtain ⟨j, hj, rfl⟩ := List.mem_iff_getElem.1 hy
    rw [List.length_drop] at hj
    have := h2 (k + j) (by omega) (by omega)
    rw [List.getElem_drop]
    simp [List.getD_eq_getElem?_getD, show k + j < S.length by omega] at this
    omega
  · intro a ha b hb
    obtain ⟨i, hi, rfl⟩ := List.mem_iff_getElem.1 ha
    rw [List.length_take] at hi
    rw [List.getElem_take]
    have hik : i < k := by omega
    have hkx : S[i] ≤ x := by
      have h3 := h1 (by omega)
      simp [List.getD_eq_getElem?_getD, show k - 1 < S.length by omega] at h3
      by_cases e : i = k - 1
      · subst e; exact h3
      · have := hg i (k - 1) (by omega) (by omega) (by omega)
        omega
    rcases List.mem_append.1 hb with hb | hb
    · rw [List.mem_singleton] at hb
      subst hb; exact hkx
    · obtain ⟨j, hj, rfl⟩ := List.mem_iff_getElem.1 hb
      rw [List.length_drop] at hj
      rw [List.getElem_drop]
      exact hg i (k + j) (by omega) (by omega) (by omega)
set_option maxHeartbeats 8000000 in
theorem l03Sort_any (v : Value) (xs : List Int) (w : World) (h : Rd w v xs) (hn8 : xs.length ≤ 8) (hI : I64s xs) :
    Calls Tryd.prog 55 #[v] w fun e w' => ∃ (v' : Value) (ys : List Int), e = .returned v' ∧ ys.Perm xs ∧ ys.Pairwise (· ≤ ·) ∧ Own w' w.heap.size v' ys ∧ Below w.heap.size w w' := by
  have HR := Lib.hid h
  obtain ⟨A, c, rfl, -, hcm, -⟩ := h
  unfold maxLen at hcm
  generalize hxl : xs.length = n at *
  have HXL := Lib.hid hxl
  have HI := Lib.hid hI
  have HG0 := Lib.hid (below_alloc1 w (.cells #[] 3))
  have HL0 := Lib.hid (Own.lit w w.heap.size [] (Nat.le_refl _) (by simp))
  clear hxl hI
  go_enter Tryd.func55, Tryd.ntmps55
  go_wp2
  go_loopw [3, 11] (fun l t wr => ∃ (i gl d : Nat) (S : List Int), i ≤ n ∧ t = .int .i64 i ∧ l = .slice (some ⟨gl, 0, none⟩) i d ∧ i ≤ d ∧ d ≤ 9223372036854775807 ∧ S.length = i ∧ Hid (S.Perm (xs.take i)) ∧ Hid (S.Pairwise (· ≤ ·)) ∧ Hid (Own wr w.heap.size (.slice (some ⟨gl, 0, none⟩) i d) S) ∧ Hid (Below w.heap.size w wr)) (fun _ t _ => n - (intOf t).toNat)
  case atStart => exact ⟨0, _, 0, [], by omega, rfl, rfl, by omega, by omega, rfl, Lib.hid (by simp), Lib.hid List.Pairwise.nil, HL0, HG0⟩
  case round =>
    obtain ⟨wp, rfl⟩ : ∃ x, x = wr := ⟨_, rfl⟩
    obtain ⟨i, gl, d, S, hi, rfl, rfl, hid, hd, hSl, HP, HSO, HO, HB⟩ := hrel
    clear HG0 HL0
    by_cases hlt : i < n
    · have hrd := HR.out.below HB.out
      obtain ⟨xg, xo, rfl⟩ := rd_at (HR.out) HXL.out (by omega)
      have zx := rd_cell hrd HXL.out hlt
      have HTK : Hid (xs.take (i + 1) = xs.take i ++ [xs.getD i 0]) := Lib.hid (by
        have : i < xs.length := by rw [HXL.out]; exact hlt
        rw [List.take_succ_eq_append_getElem this]
        simp [List.getD_eq_getElem?_getD, this])
      have hxb := HI.out.getD i
      generalize xs.getD i 0 = x at *
      clear hrd
      go_wp2
      go_loop [6] (fun t6 => ∃ k : Nat, k ≤ i ∧ t6 = .int .i64 k ∧ Hid (∀ j, k ≤ j → j < i → x < S.getD j 0)) (fun t6 => (intOf t6).toNat)
      case atStart => exact ⟨i, by omega, rfl, Lib.hid fun j h1 h2 => by omega⟩
      case round =>
        obtain ⟨k, hk, rfl, HK⟩ := hrel
        by_cases h0 : 0 < k
        · have z1 := (HO.out.at1 hSl (by omega)).1 (k - 1) (by omega)
          obtain ⟨p, hp⟩ : ∃ p, k = p + 1 := ⟨k - 1, by omega⟩
          subst hp
          rw [Nat.add_sub_cancel] at z1
          have HSP := Lib.hid (rfl : S.getD p 0 = S.getD p 0)
          generalize hy : S.getD p 0 = y at *
          have HY := Lib.hid hy
          clear hy HSP
          by_cases hxy : x < y
          · go_wp2
            go_round
            case rel => exact ⟨p, by omega, by go_num, Lib.hid fun j h1 h2 => by
              by_cases e : j = p
              · subst e; rw [HY.out]; exact hxy
              · exact HK.out j (by omega) h2⟩
            case measure => simp [intOf]
          · have HLO : 0 < p + 1 → S.getD (p + 1 - 1) 0 ≤ x := fun _ => by rw [Nat.add_sub_cancel, HY.out]; omega
            obtain ⟨k, hk1⟩ : ∃ k, k = p + 1 := ⟨_, rfl⟩
            rw [← hk1] at HLO HK hk h0 ⊢
            have hd0 : decide ((0 : Int) < (k : Int)) = true := by simp; omega
            have e2 : IntKind.i64.wrap ((k : Int) - 1) = (p : Int) := by rw [IntWalk.i64_in _ (by omega)]; omega
            have e3 : wrap64 ((k : Int) - 1) = (p : Int) := by rw [IntWalk.wrap64_in _ (by omega)]; omega
            have hki : k ≤ i := by omega
            have hqt : (S.take k).length = k := by rw [List.length_take, hSl]; omega
            have hqd : (S.drop k).length = i - k := by rw [List.length_drop, hSl]
            have HE := Lib.hid (Own.lit wp wp.heap.size [] (Nat.le_refl _) (by simp))
            have bE := below_alloc1 wp (.cells #[] 3)
            have HOC := Lib.hid (fun (k : Nat) (hk : k < i) => (HO.out.at1 hSl (by omega)).1 k hk)
            have hgw := (HO.out.lt gl rfl).2
            have HC1 : Hid (∀ j, j < (S.take k).length → (wp.alloc (.cells #[] 3)).cell? ((⟨gl, 0, none⟩ : Addr).add j) = some (.int .i64 ((S.take k).getD j 0))) := fun j hj => by
              rw [hqt] at hj
              rw [Addr.add_lit, Nat.zero_add, bE.cell (p := ⟨gl, j, none⟩) hgw, HOC.out j (by omega)]
              simp [List.getD_eq_getElem?_getD, hj]
            have HBE := Lib.hid bE
            have HLN : Hid ((S.take k ++ [x] ++ S.drop k).length = i + 1) := Lib.hid (by rw [List.length_append, List.length_append, hqt, hqd]; simp; omega)
            have HPN : Hid ((S.take k ++ [x] ++ S.drop k).Perm (xs.take (i + 1))) := Lib.hid (by rw [HTK.out]; exact ins_perm3 _ x HP.out)
            have HSN : Hid ((S.take k ++ [x] ++ S.drop k).Pairwise (· ≤ ·)) := Lib.hid (ins_sorted3 (by omega) HSO.out HLO (fun j h1 h2 => HK.out j h1 (by omega)))
            clear bE zx HLO HK HTK
            by_cases hdq : d = k
            case pos =>
              go_wp2_with (first
                | (at_builtin; refine wp_appendN (wp.alloc (.cells #[] 3)) rfl (.tmp 30) (.tmp 33) rfl wp.heap.size _ [] rfl HE.out ⟨gl, 0, none⟩ d (S.take k) (by rw [hqt]; simp [Act.eval] <;> omega) HC1.out (by simp; omega) (by simp) ?_; intro v1 w1 ho1 hg1; have HO1 : Hid (Own w1 wp.heap.size v1 (S.take k)) := ho1; have HB1 := Lib.hid (Below.grown HBE.out hg1 (by simp) (fun k hk => (HE.out.lt k hk).1)); clear ho1 hg1)
                | (at_builtin; refine wp_append1 w1 rfl (.tmp 35) (.tmp 37) rfl wp.heap.size _ (S.take k) x rfl HO1.out (by simp [Act.eval]) (by omega) HB1.out.size ?_; intro v2 w2 ho2 hg2; have HO2 := Lib.hid ho2; have HB2 := Lib.hid (below_append HB1.out hg2 HO1.out (Nat.le_refl _) HB1.out.size); clear ho2 hg2)
                | (at_builtin; refine wp_appendN w2 rfl (.tmp 39) (.tmp 42) rfl wp.heap.size _ (S.take k ++ [x]) rfl HO2.out ⟨gl, 0, none⟩ (d - k) (S.drop k) (by rw [hqd]; simp [Act.eval] <;> omega) (fun j hj => by rw [hqd] at hj; omega) (by simp; omega) HB2.out.size ?_; intro v3 w3 ho3 hg3; obtain ⟨Y3, c3, hv3, hc3, hl3, hY3⟩ := ho3.form; rw [HLN.out] at hv3 hl3 hY3; obtain ⟨g3, rfl, hg3a, hg3b⟩ := hY3 (by omega); subst hv3; have HO3 := Lib.hid ho3; have HB3 := Lib.hid (Below.grown HB2.out hg3 HB2.out.size (fun k hk => (HO2.out.lt k hk).1)); clear ho3 hg3))
              have hln := HLN.out
              unfold maxLen at hc3
              have HBN := Lib.hid (Below.then HB.out HB3.out)
              have HON := Lib.hid (HO3.out.mono HB.out.size)
              go_roundw
              case rel => exact ⟨i + 1, g3, c3, _, by omega, by go_num, rfl, by omega, by omega, hln, HPN, HSN, HON, HBN⟩
              case measure => simp [intOf]; omega
            case neg =>
              go_wp2_with (first
                | (at_builtin; refine wp_appendN (wp.alloc (.cells #[] 3)) rfl (.tmp 30) (.tmp 33) rfl wp.heap.size _ [] rfl HE.out ⟨gl, 0, none⟩ d (S.take k) (by rw [hqt]; simp [Act.eval] <;> omega) HC1.out (by simp; omega) (by simp) ?_; intro v1 w1 ho1 hg1; have HO1 : Hid (Own w1 wp.heap.size v1 (S.take k)) := ho1; have HB1 := Lib.hid (Below.grown HBE.out hg1 (by simp) (fun k hk => (HE.out.lt k hk).1)); clear ho1 hg1)
                | (at_builtin; refine wp_append1 w1 rfl (.tmp 35) (.tmp 37) rfl wp.heap.size _ (S.take k) x rfl HO1.out (by simp [Act.eval]) (by omega) HB1.out.size ?_; intro v2 w2 ho2 hg2; have HO2 := Lib.hid ho2; have HB2 := Lib.hid (below_append HB1.out hg2 HO1.out (Nat.le_refl _) HB1.out.size); clear ho2 hg2)
                | (at_builtin; refine wp_appendN w2 rfl (.tmp 39) (.tmp 42) rfl wp.heap.size _ (S.take k ++ [x]) rfl HO2.out ⟨gl, k, none⟩ (d - k) (S.drop k) (by rw [hqd]; simp [Act.eval] <;> omega) (fun j hj => by rw [Addr.add_lit, HB2.out.cell (p := ⟨gl, k + j, none⟩) hgw, HOC.out (k + j) (by omega)]; simp [List.getD_eq_getElem?_getD, List.getElem?_drop]) (by simp; omega) HB2.out.size ?_; intro v3 w3 ho3 hg3; obtain ⟨Y3, c3, hv3, hc3, hl3, hY3⟩ := ho3.form; rw [HLN.out] at hv3 hl3 hY3; obtain ⟨g3, rfl, hg3a, hg3b⟩ := hY3 (by omega); subst hv3; have HO3 := Lib.hid ho3; have HB3 := Lib.hid (Below.grown HB2.out hg3 HB2.out.size (fun k hk => (HO2.out.lt k hk).1)); clear ho3 hg3))
              have hln := HLN.out
              unfold maxLen at hc3
              have HBN := Lib.hid (Below.then HB.out HB3.out)
              have HON := Lib.hid (HO3.out.mono HB.out.size)
              go_roundw
              case rel => exact ⟨i + 1, g3, c3, _, by omega, by go_num, rfl, by omega, by omega, hln, HPN, HSN, HON, HBN⟩
              case measure => simp [intOf]; omega
        · have HLO : 0 < k → S.getD (k - 1) 0 ≤ x := fun h => by omega
          have hd0 : decide ((0 : Int) < (k : Int)) = false := by simp; omega
          have hki : k ≤ i := by omega
          have hqt : (S.take k).length = k := by rw [List.length_take, hSl]; omega
          have hqd : (S.drop k).length = i - k := by rw [List.length_drop, hSl]
          have HE := Lib.hid (Own.lit wp wp.heap.size [] (Nat.le_refl _) (by simp))
          have bE := below_alloc1 wp (.cells #[] 3)
          have HOC := Lib.hid (fun (k : Nat) (hk : k < i) => (HO.out.at1 hSl (by omega)).1 k hk)
          have hgw := (HO.out.lt gl rfl).2
          have HC1 : Hid (∀ j, j < (S.take k).length → (wp.alloc (.cells #[] 3)).cell? ((⟨gl, 0, none⟩ : Addr).add j) = some (.int .i64 ((S.take k).getD j 0))) := fun j hj => by
            rw [hqt] at hj
            rw [Addr.add_lit, Nat.zero_add, bE.cell (p := ⟨gl, j, none⟩) hgw, HOC.out j (by omega)]
            simp [List.getD_eq_getElem?_getD, hj]
          have HBE := Lib.hid bE
          have HLN : Hid ((S.take k ++ [x] ++ S.drop k).length = i + 1) := Lib.hid (by rw [List.length_append, List.length_append, hqt, hqd]; simp; omega)
          have HPN : Hid ((S.take k ++ [x] ++ S.drop k).Perm (xs.take (i + 1))) := Lib.hid (by rw [HTK.out]; exact ins_perm3 _ x HP.out)
          have HSN : Hid ((S.take k ++ [x] ++ S.drop k).Pairwise (· ≤ ·)) := Lib.hid (ins_sorted3 (by omega) HSO.out HLO (fun j h1 h2 => HK.out j h1 (by omega)))
          clear bE zx HLO HK HTK
          by_cases hdq : d = k
          case pos =>
            go_wp2_with (first
              | (at_builtin; refine wp_appendN (wp.alloc (.cells #[] 3)) rfl (.tmp 30) (.tmp 33) rfl wp.heap.size _ [] rfl HE.out ⟨gl, 0, none⟩ d (S.take k) (by rw [hqt]; simp [Act.eval] <;> omega) HC1.out (by simp; omega) (by simp) ?_; intro v1 w1 ho1 hg1; have HO1 : Hid (Own w1 wp.heap.size v1 (S.take k)) := ho1; have HB1 := Lib.hid (Below.grown HBE.out hg1 (by simp) (fun k hk => (HE.out.lt k hk).1)); clear ho1 hg1)
              | (at_builtin; refine wp_append1 w1 rfl (.tmp 35) (.tmp 37) rfl wp.heap.size _ (S.take k) x rfl HO1.out (by simp [Act.eval]) (by omega) HB1.out.size ?_; intro v2 w2 ho2 hg2; have HO2 := Lib.hid ho2; have HB2 := Lib.hid (below_append HB1.out hg2 HO1.out (Nat.le_refl _) HB1.out.size); clear ho2 hg2)
              | (at_builtin; refine wp_appendN w2 rfl (.tmp 39) (.tmp 42) rfl wp.heap.size _ (S.take k ++ [x]) rfl HO2.out ⟨gl, 0, none⟩ (d - k) (S.drop k) (by rw [hqd]; simp [Act.eval] <;> omega) (fun j hj => by rw [hqd] at hj; omega) (by simp; omega) HB2.out.size ?_; intro v3 w3 ho3 hg3; obtain ⟨Y3, c3, hv3, hc3, hl3, hY3⟩ := ho3.form; rw [HLN.out] at hv3 hl3 hY3; obtain ⟨g3, rfl, hg3a, hg3b⟩ := hY3 (by omega); subst hv3; have HO3 := Lib.hid ho3; have HB3 := Lib.hid (Below.grown HB2.out hg3 HB2.out.size (fun k hk => (HO2.out.lt k hk).1)); clear ho3 hg3))
            have hln := HLN.out
            unfold maxLen at hc3
            have HBN := Lib.hid (Below.then HB.out HB3.out)
            have HON := Lib.hid (HO3.out.mono HB.out.size)
            go_roundw
            case rel => exact ⟨i + 1, g3, c3, _, by omega, by go_num, rfl, by omega, by omega, hln, HPN, HSN, HON, HBN⟩
            case measure => simp [intOf]; omega
          case neg =>
            go_wp2_with (first
              | (at_builtin; refine wp_appendN (wp.alloc (.cells #[] 3)) rfl (.tmp 30) (.tmp 33) rfl wp.heap.size _ [] rfl HE.out ⟨gl, 0, none⟩ d (S.take k) (by rw [hqt]; simp [Act.eval] <;> omega) HC1.out (by simp; omega) (by simp) ?_; intro v1 w1 ho1 hg1; have HO1 : Hid (Own w1 wp.heap.size v1 (S.take k)) := ho1; have HB1 := Lib.hid (Below.grown HBE.out hg1 (by simp) (fun k hk => (HE.out.lt k hk).1)); clear ho1 hg1)
              | (at_builtin; refine wp_append1 w1 rfl (.tmp 35) (.tmp 37) rfl wp.heap.size _ (S.take k) x rfl HO1.out (by simp [Act.eval]) (by omega) HB1.out.size ?_; intro v2 w2 ho2 hg2; have HO2 := Lib.hid ho2; have HB2 := Lib.hid (below_append HB1.out hg2 HO1.out (Nat.le_refl _) HB1.out.size); clear ho2 hg2)
              | (at_builtin; refine wp_appendN w2 rfl (.tmp 39) (.tmp 42) rfl wp.heap.size _ (S.take k ++ [x]) rfl HO2.out ⟨gl, k, none⟩ (d - k) (S.drop k) (by rw [hqd]; simp [Act.eval] <;> omega) (fun j hj => by rw [Addr.add_lit, HB2.out.cell (p := ⟨gl, k + j, none⟩) hgw, HOC.out (k + j) (by omega)]; simp [List.getD_eq_getElem?_getD, List.getElem?_drop]) (by simp; omega) HB2.out.size ?_; intro v3 w3 ho3 hg3; obtain ⟨Y3, c3, hv3, hc3, hl3, hY3⟩ := ho3.form; rw [HLN.out] at hv3 hl3 hY3; obtain ⟨g3, rfl, hg3a, hg3b⟩ := hY3 (by omega); subst hv3; have HO3 := Lib.hid ho3; have HB3 := Lib.hid (Below.grown HB2.out hg3 HB2.out.size (fun k hk => (HO2.out.lt k hk).1)); clear ho3 hg3))
            have hln := HLN.out
            unfold maxLen at hc3
            have HBN := Lib.hid (Below.then HB.out HB3.out)
            have HON := Lib.hid (HO3.out.mono HB.out.size)
            go_roundw
            case rel => exact ⟨i + 1, g3, c3, _, by omega, by go_num, rfl, by omega, by omega, hln, HPN, HSN, HON, HBN⟩
            case measure => simp [intOf]; omega
    · obtain rfl : n = i := by omega
      have HPX : Hid (S.Perm xs) := Lib.hid (by have := HP.out; rwa [List.take_of_length_le (by rw [HXL.out]; exact Nat.le_refl _)] at this)
      go_wp2
      go_ret
      exact ⟨_, S, rfl, HPX.out, HSO.out, HO.out, HB.out⟩
end Go.Proofs.YthoodjjjklbggaaDoor

namespace Go.Proofs.YthoodjjjklbggaaDoor
open Go.RowKit Go.Sort
set_option maxRecDepth 100000
theorem conn_draw {n : Nat} {L ys : List Int} (hn : n = 1 ∨ n = 3 ∨ n = 5 ∨ n = 7) (hl : L.length = n / 2) (hL : ∀ j, j < n / 2 → L.getD j 0 = (j : Int) + 1 ∨ L.getD j 0 = (n : Int) - (j + 1)) (hp : ys.Perm L) (hs : ys.Pairwise (· ≤ ·)) : connP n ys := by
  have hm : ∀ x, x ∈ ys → ∃ j, j < n / 2 ∧ x = L.getD j 0 := fun x hx => by
    obtain ⟨j, hj, rfl⟩ := List.mem_iff_getElem.1 (hp.mem_iff.1 hx)
    exact ⟨j, by omega, by simp [List.getD_eq_getElem?_getD, hj]⟩
  have hLn : L.Nodup := List.pairwise_iff_getElem.2 fun i j hi hj hij e => by
    have h1 := hL i (by omega)
    have h2 := hL j (by omega)
    rw [show L.getD i 0 = L[i] by simp [List.getD_eq_getElem?_getD, hi]] at h1
    rw [show L.getD j 0 = L[j] by simp [List.getD_eq_getElem?_getD, hj]] at h2
    omega
  have hyn := List.pairwise_iff_getElem.1 (hp.nodup_iff.2 hLn)
  have hys := List.pairwise_iff_getElem.1 hs
  have hyl := hp.length_eq
  refine ⟨by omega, fun j hj => ⟨?_, fun h0 => ?_, fun hx => ?_⟩, by omega⟩
  · obtain ⟨i, hi, e⟩ := hm (ys.getD j 0) (by simp [List.getD_eq_getElem?_getD, hj])
    have := hL i hi
    omega
  · have h1 := hyn (j - 1) j (by omega) hj (by omega)
    have h2 := hys (j - 1) j (by omega) hj (by omega)
    rw [show ys.getD (j - 1) 0 = ys[j - 1] by simp [List.getD_eq_getElem?_getD, show j - 1 < ys.length by omega], show ys.getD j 0 = ys[j] by simp [List.getD_eq_getElem?_getD, hj]]
    omega
  · obtain ⟨i, hi, e⟩ := hm (ys.getD j 0) (by simp [List.getD_eq_getElem?_getD, hj])
    obtain ⟨i', hi', e'⟩ := hm _ hx
    have h1 := hL i hi
    have h2 := hL i' hi'
    have : i = i' := by omega
    subst this
    omega
set_option maxHeartbeats 2000000 in
theorem l01Pick_any (lo base : Nat) (w : World) (g : Nat) (cv : Value) (n : Nat) (sl : Value) (xs : List Int) (hO : Own w base sl xs) (hgb : g < base) (hl : xs.length = n) (hn : 1 ≤ n) (hn2 : n ≤ 256) (hc : CurB lo w g cv) :
    Calls Tryd.prog 52 #[.pointer (some ⟨g, 0, none⟩), sl] w fun e w' => ∃ i, i < n ∧ e = .returned (.int .i64 (xs.getD i 0)) ∧ CurB lo w' g cv ∧ w.grownBy w' (some g) := by
  have HC := Lib.hid hc
  obtain ⟨Y, cy, rfl, -, -, hY⟩ := hO.form
  obtain ⟨gl, rfl, -, -⟩ := hY (by omega)
  rw [hl] at hO ⊢
  have HO := Lib.hid hO
  clear hO hY hc
  go_enter Tryd.func52, Tryd.ntmps52
  go_wp2_with fail
  refine (l01Below_any lo _ g cv n hn hn2 HC.out).mono ?_
  rintro e w1 ⟨x, rfl, hx, hc1, hg1⟩
  have HC1 := Lib.hid hc1
  have HG1 := Lib.hid hg1
  have z := ((HO.out.kept hg1 (own_ne (fun k hk => (HO.out.lt k hk).1) hgb)).at1 hl (by omega)).1 x hx
  clear hc1 hg1
  have hxl : x < xs.length := by omega
  rw [show xs.getD x 0 = xs[x] by simp [List.getD_eq_getElem?_getD, hxl]] at z
  go_wp2
  go_ret
  exact ⟨x, hx, by rw [show xs.getD x 0 = xs[x] by simp [List.getD_eq_getElem?_getD, hxl]]; rfl, HC1.out, HG1.out⟩
set_option maxHeartbeats 8000000 in
theorem l11Draw_any (lo : Nat) (w : World) (g : Nat) (cv : Value) (hc : CurB lo w g cv) :
    Calls Tryd.prog 25 #[.pointer (some ⟨g, 0, none⟩)] w fun e w' => ∃ (n : Nat) (L : List Int) (sl : Value), e = .returned (.agg #[.int .i64 n, sl]) ∧ connP n L ∧ Own w' w.heap.size sl (rotT L n) ∧ w.grownBy w' (some g) := by
  have hgw := hc.lt
  have hrb : w.heap.size ≠ g := by omega
  have b0 := below_alloc1 w (.cells #[.int .i64 0, .slice none 0 0] 25)
  have HC0 := Lib.hid (hc.below b0)
  have HT0 := Lib.hid (BoxF.new w 0 (.slice none 0 0) 25)
  have HG0 : Hid (w.grownBy (w.alloc (.cells #[.int .i64 0, .slice none 0 0] 25)) (some g)) := Lib.hid (grown_belowC ⟨rfl, rfl, rfl, Nat.le_refl _, fun _ _ _ => rfl⟩ b0)
  have hs0 : (w.alloc (.cells #[.int .i64 0, .slice none 0 0] 25)).heap.size = w.heap.size + 1 := by simp
  clear hc b0
  go_enter Tryd.func25, Tryd.ntmps25
  go_wp2_with fail
  generalize w.alloc (.cells #[.int .i64 0, .slice none 0 0] 25) = w0 at *
  have b1 := below_alloc1 w0 (.cells #[.int .i64 1, .int .i64 3, .int .i64 5, .int .i64 7] 3)
  have HC1 := Lib.hid (HC0.out.below b1)
  have HT1 := Lib.hid (HT0.out.below b1)
  have HG1 := Lib.hid (grown_belowC HG0.out (Below.mono b1 (by omega)))
  have HO1 : Hid (Own (w0.alloc (.cells #[.int .i64 1, .int .i64 3, .int .i64 5, .int .i64 7] 3)) w0.heap.size (.slice (some ⟨w0.heap.size, 0, none⟩) 4 4) [1, 3, 5, 7]) := Lib.hid (Own.lit w0 w0.heap.size [1, 3, 5, 7] (Nat.le_refl _) (by simp))
  clear b1 HC0 HT0 HG0
  rw [hs0] at HO1
  have hgb : g < w.heap.size + 1 := Nat.lt_succ_of_lt hgw
  have HPK := Lib.hid (l01Pick_any lo (w.heap.size + 1) _ g cv 4 _ [1, 3, 5, 7] HO1.out hgb rfl (by decide) (by decide) HC1.out)
  go_wp2_with fail
  refine HPK.out.mono ?_
  clear HPK
  rintro e w1 ⟨i, hi, rfl, hc2, hg2⟩
  have HC2 := Lib.hid hc2
  have HT2 := Lib.hid (HT1.out.kept hg2 (by simpa using hrb))
  have HG2 := Lib.hid (HG1.out.trans hg2)
  clear hc2 hg2 HC1 HT1 HG1 HO1
  obtain ⟨n, hn, en⟩ : ∃ n : Nat, (n = 1 ∨ n = 3 ∨ n = 5 ∨ n = 7) ∧ ([1, 3, 5, 7] : List Int).getD i 0 = (n : Int) := by
    rcases (by omega : i = 0 ∨ i = 1 ∨ i = 2 ∨ i = 3) with rfl | rfl | rfl | rfl
    · exact ⟨1, by omega, rfl⟩
    · exact ⟨3, by omega, rfl⟩
    · exact ⟨5, by omega, rfl⟩
    · exact ⟨7, by omega, rfl⟩
  rw [en]
  clear en hi
  obtain ⟨m, hm⟩ : ∃ m : Nat, m = n / 2 := ⟨_, rfl⟩
  have hq : Int.tdiv (n : Int) 2 = (m : Int) := by rw [Int.tdiv_eq_ediv_of_nonneg (by omega)]; omega
  have HN : Hid (n = 1 ∨ n = 3 ∨ n = 5 ∨ n = 7) := hn
  have HM := Lib.hid hm
  have hn7 : n ≤ 7 := by omega
  have hmn : 2 * m < n := by omega
  have hlt1 : w.heap.size < w1.heap.size := HT2.out.gt
  have b2 := below_alloc1 w1 (.cells #[] 3)
  have HL0 : Hid (Own (w1.alloc (.cells #[] 3)) (w.heap.size + 1) (.slice (some ⟨w1.heap.size, 0, none⟩) 0 0) []) := Lib.hid (Own.lit w1 (w.heap.size + 1) [] (by omega) (by simp))
  have HC3 := Lib.hid (HC2.out.below b2)
  have HT3 := Lib.hid (HT2.out.below b2)
  have HG3 := Lib.hid (grown_belowC HG2.out (Below.mono b2 (by omega)))
  clear b2 hn hm HC2 HT2 HG2
  go_wp2
  go_loopw [4, 5] (fun l t wr => ∃ (i : Nat) (L : List Int), 1 ≤ i ∧ i ≤ m + 1 ∧ t = .int .i64 i ∧ L.length = i - 1 ∧ Hid (∀ j, j < i - 1 → L.getD j 0 = (j : Int) + 1 ∨ L.getD j 0 = (n : Int) - (j + 1)) ∧ Hid (Own wr (w.heap.size + 1) l L) ∧ Hid (CurB lo wr g cv) ∧ Hid (BoxF wr w.heap.size 0 (.slice none 0 0)) ∧ Hid (w.grownBy wr (some g))) (fun _ t _ => n - (intOf t).toNat)
  case atStart => exact ⟨1, [], by omega, by omega, rfl, rfl, Lib.hid fun j hj => by omega, HL0, HC3, HT3, HG3⟩
  case round =>
    obtain ⟨wo, rfl⟩ : ∃ x, x = wr := ⟨_, rfl⟩
    obtain ⟨i, L, hi1, him, rfl, hLl, HL, HO, HC, HT, HG⟩ := hrel
    clear HL0 HC3 HT3 HG3
    by_cases hlt : i ≤ m
    · go_wp2_with fail
      refine (l01Once_any lo wo g cv 2 2 rfl (by omega) (by omega) HC.out).mono ?_
      rintro e wp ⟨b, rfl, hc1, hg1⟩
      have HO' := Lib.hid (HO.out.kept hg1 (own_ne (fun k hk => (HO.out.lt k hk).1) (by omega)))
      have HC' := Lib.hid hc1
      have HT' := Lib.hid (HT.out.kept hg1 (by simpa using hrb))
      have HG' := Lib.hid (HG.out.trans hg1)
      clear hc1 hg1 HO HC HT HG
      have hsz : w.heap.size + 1 ≤ wp.heap.size := HT'.out.gt
      have ho := HO'.out
      have hll : L.length ≤ 1099511627776 := by omega
      have HNEXT : Hid (∀ y : Int, (y = (i : Int) ∨ y = (n : Int) - i) → ∀ j, j < i + 1 - 1 → (L ++ [y]).getD j 0 = (j : Int) + 1 ∨ (L ++ [y]).getD j 0 = (n : Int) - (j + 1)) := Lib.hid fun y hy j hj => by
        by_cases e : j < i - 1
        · have := HL.out j e
          rw [List.getD_eq_getElem?_getD, List.getElem?_append_left (by omega), ← List.getD_eq_getElem?_getD]
          exact this
        · have e1 : j = L.length := by omega
          have e2 : (L ++ [y]).getD j 0 = y := by subst e1; simp [List.getD_eq_getElem?_getD]
          rw [e2]; omega
      have HPUT : Hid (∀ (y : Int) (l' : Value) (w7 : World) (l : Value), Own wp (w.heap.size + 1) l L → Own w7 (w.heap.size + 1) l' (L ++ [y]) → wp.grownBy w7 l.ownBlock → CurB lo w7 g cv ∧ BoxF w7 w.heap.size 0 (.slice none 0 0) ∧ w.grownBy w7 (some g)) := Lib.hid fun y l' w7 l h1 h2 h3 => by
        refine ⟨HC'.out.kept h3 (fun k hk => ?_), HT'.out.kept h3 ?_, grown_newC HG'.out h3 (fun k hk => ?_)⟩
        · have := (h1.lt k hk).1
          have := HC'.out.le
          exact ⟨by omega, by omega⟩
        · intro e
          have := (h1.lt _ e.symm).1
          omega
        · have := (h1.lt k hk).1
          omega
      clear HL
      rcases b with _ | _
      · go_wp2_with (at_builtin; refine wp_append1 wp rfl (.tmp 26) (.tmp 28) rfl (w.heap.size + 1) _ L (i : Int) rfl ho (by simp [Act.eval]) hll hsz ?_; intro v' w7 hown1 hg1; have HO7 := Lib.hid hown1; have HP7 := Lib.hid (HPUT.out _ v' w7 _ ho hown1 hg1); clear hown1 hg1)
        go_roundw
        case rel => exact ⟨i + 1, _, by omega, by omega, by go_num, by simp; omega, Lib.hid (HNEXT.out _ (.inl rfl)), HO7, Lib.hid HP7.out.1, Lib.hid HP7.out.2.1, Lib.hid HP7.out.2.2⟩
        case measure => simp [intOf]; omega
      · have es : IntKind.i64.wrap ((n : Int) - (i : Int)) = (n : Int) - (i : Int) := IntWalk.i64_in _ (by omega)
        go_wp2_with (at_builtin; refine wp_append1 wp rfl (.tmp 20) (.tmp 24) rfl (w.heap.size + 1) _ L ((n : Int) - (i : Int)) rfl ho (by simp [Act.eval]) hll hsz ?_; intro v' w7 hown1 hg1; have HO7 := Lib.hid hown1; have HP7 := Lib.hid (HPUT.out _ v' w7 _ ho hown1 hg1); clear hown1 hg1)
        go_roundw
        case rel => exact ⟨i + 1, _, by omega, by omega, by go_num, by simp; omega, Lib.hid (HNEXT.out _ (.inr rfl)), HO7, Lib.hid HP7.out.1, Lib.hid HP7.out.2.1, Lib.hid HP7.out.2.2⟩
        case measure => simp [intOf]; omega
    · have him' : i = m + 1 := by omega
      have hLm : L.length = n / 2 := by have := HM.out; omega
      have HL' : Hid (∀ j, j < n / 2 → L.getD j 0 = (j : Int) + 1 ∨ L.getD j 0 = (n : Int) - (j + 1)) := Lib.hid fun j hj => HL.out j (by have := HM.out; omega)
      have HI : Hid (I64s L) := Lib.hid fun x hx => by
        obtain ⟨j, hj, rfl⟩ := List.mem_iff_getElem.1 hx
        have := HL'.out j (by omega)
        rw [show L.getD j 0 = L[j] by simp [List.getD_eq_getElem?_getD, hj]] at this
        omega
      have hsz : w.heap.size < wo.heap.size := HT.out.gt
      go_wp2_with fail
      refine (l03Sort_any _ L wo HO.out.rd (by omega) HI.out).mono ?_
      rintro e w4 ⟨v4, ys, rfl, hpm, hst, ho4, hb4⟩
      have HK := Lib.hid (conn_draw HN.out hLm HL'.out hpm hst)
      have HO4 := Lib.hid ho4
      have HT4 := Lib.hid (HT.out.below hb4)
      have HG4 := Lib.hid (grown_belowC HG.out (Below.mono hb4 (Nat.le_of_lt hsz)))
      clear hpm hst ho4 hb4 HL HL' HI HO HC HT HG
      have hsz4 : w.heap.size < w4.heap.size := HT4.out.gt
      go_wp2_with fail
      refine (specRot n v4 ys w4 HO4.out.rd).mono ?_
      rintro e w5 ⟨sl, rfl, ho5, hb5⟩
      rw [connB_true HK.out, (rt_yes (connB_true HK.out)).1]
      rw [(rt_yes (connB_true HK.out)).2, show ((n : Int)).toNat = n from rfl] at ho5
      obtain ⟨Y, cy, rfl, -, -, -⟩ := ho5.form
      obtain ⟨X, hX⟩ : ∃ X, X = rotT ys n := ⟨_, rfl⟩
      rw [← hX] at ho5 ⊢
      have HX := Lib.hid hX
      have b6 := below_alloc1 w5 (.cells #[.int .i64 n, .slice Y X.length cy] 25)
      have T6 := HT4.out.below (Below.then hb5 b6)
      have t0 := T6.1.1
      have t1 := T6.1.2
      have f0 := T6.2 0
      have f1 := T6.2 1
      have ho6 := ho5.below b6
      have x6 := BoxF.new w5 n (.slice Y X.length cy) 25
      have y0 := x6.1.1
      have y1 := x6.1.2
      have hg6 := grown_belowC HG4.out (Below.mono (Below.then hb5 b6) (Nat.le_of_lt hsz4))
      clear b6 ho5 hb5 x6 hX T6
      go_wp2_with fail
      generalize w5.alloc (.cells #[.int .i64 n, .slice Y X.length cy] 25) = w6 at *
      have HO := Lib.hid ((ho6.kept (setCell_grown _ ⟨w.heap.size, 0, none⟩ (.int .i64 n)) (own_ne (fun k hk => (ho6.lt k hk).1) hsz4)).kept (setCell_grown _ ⟨w.heap.size, 1, none⟩ (.slice Y X.length cy)) (own_ne (fun k hk => (ho6.lt k hk).1) hsz4))
      have HG := Lib.hid (grown_newC (grown_newC hg6 (setCell_grown _ ⟨w.heap.size, 0, none⟩ (.int .i64 n)) (fun k hk => by simp at hk; omega)) (setCell_grown _ ⟨w.heap.size, 1, none⟩ (.slice Y X.length cy)) (fun k hk => by simp at hk; omega))
      have R0 : Hid (((w6.setCell ⟨w.heap.size, 0, none⟩ (.int .i64 n)).setCell ⟨w.heap.size, 1, none⟩ (.slice Y X.length cy)).cell? ⟨w.heap.size, 0, none⟩ = some (.int .i64 n)) := (World.cell?_setCell_other _ _ _ _ (by simp)).trans (World.cell?_setCell_same _ _ _ t0)
      have R1 : Hid (((w6.setCell ⟨w.heap.size, 0, none⟩ (.int .i64 n)).setCell ⟨w.heap.size, 1, none⟩ (.slice Y X.length cy)).cell? ⟨w.heap.size, 1, none⟩ = some (.slice Y X.length cy)) := World.cell?_setCell_same _ _ _ ((World.cell?_setCell_other _ _ _ _ (by simp)).trans t1)
      clear ho6 hg6
      go_wp2
      have r0 := R0.out
      have r1 := R1.out
      refine bodyPost_ret (v := .agg #[.int .i64 n, .slice Y X.length cy]) (by simp only [results, Tryd.results25]; simp [go_sem, r0, r1]) rfl ⟨n, ys, _, rfl, HK.out, by rw [← HX.out]; exact HO.out.mono (by omega), HG.out⟩
set_option maxHeartbeats 2000000 in
theorem makeTurning_any (w : World) (v : Value) (k : Int) (n0 : Nat) (hk : k = n0) (hn : n0 ≤ 1000) (hv : BytesV w w.heap.size v) :
    Calls Tryd.prog 4 #[v, .int .i64 k] w fun e w' => ∃ (n : Nat) (L : List Int) (sl : Value), e = .returned (.agg #[.int .i64 n, sl]) ∧ connP n L ∧ Own w' w.heap.size sl (rotT L n) ∧ Below w.heap.size w w' := by
  have HV := Lib.hid hv
  have HK := Lib.hid hk
  have HT0 := Lib.hid (BoxF.new w 0 (.slice none 0 0) 25)
  have HB0 := Lib.hid (below_alloc1 w (.cells #[.int .i64 0, .slice none 0 0] 25))
  clear hv hk
  go_enter Tryd.func4, Tryd.ntmps4
  go_wp2_with fail
  generalize w.alloc (.cells #[.int .i64 0, .slice none 0 0] 25) = w0 at *
  have hg0 := HT0.out.gt
  go_wp2_with fail
  refine (l32New_lit w0 v k n0 HK.out hn ((HV.out.keep fun p hp => HB0.out.cell hp).mono HB0.out.size)).mono ?_
  rintro e w1 ⟨g, rfl, hc1, hb1⟩
  have HC1 := Lib.hid hc1
  have HT1 := Lib.hid (HT0.out.below hb1)
  have HB1 := Lib.hid (Below.then HB0.out hb1)
  have hgw : w.heap.size < g := Nat.lt_of_lt_of_le hg0 hc1.le
  have hw1 : w.heap.size ≤ w1.heap.size := HB1.out.size
  clear hc1 hb1
  go_wp2_with fail
  refine (l11Draw_any w0.heap.size w1 g v HC1.out).mono ?_
  rintro e w2 ⟨n, L, sl, rfl, hK, ho, hg⟩
  obtain ⟨X, hX⟩ : ∃ X, X = rotT L n := ⟨_, rfl⟩
  rw [← hX] at ho
  have HX := Lib.hid hX
  obtain ⟨Y, cy, rfl, -, -, -⟩ := ho.form
  have HK := Lib.hid hK
  have T2 := HT1.out.kept hg (by simp; omega)
  have hlt : w.heap.size < w1.heap.size := HT1.out.gt
  have t0 := T2.1.1
  have t1 := T2.1.2
  have f0 := T2.2 0
  have f1 := T2.2 1
  have HO := Lib.hid (((ho.kept (setCell_grown _ ⟨w.heap.size, 0, none⟩ (.int .i64 n)) (own_ne (fun k hk => (ho.lt k hk).1) hlt)).kept (setCell_grown _ ⟨w.heap.size, 1, none⟩ (.slice Y X.length cy)) (own_ne (fun k hk => (ho.lt k hk).1) hlt)))
  have HB2 := Lib.hid (HB1.out.grown hg HB1.out.size (fun k hk => by injection hk with hk; omega))
  have HB := Lib.hid ((HB2.out.setCell (p := ⟨w.heap.size, 0, none⟩) (Nat.le_refl _) (.int .i64 n)).setCell (p := ⟨w.heap.size, 1, none⟩) (Nat.le_refl _) (.slice Y X.length cy))
  have R0 : Hid (((w2.setCell ⟨w.heap.size, 0, none⟩ (.int .i64 n)).setCell ⟨w.heap.size, 1, none⟩ (.slice Y X.length cy)).cell? ⟨w.heap.size, 0, none⟩ = some (.int .i64 n)) := (World.cell?_setCell_other _ _ _ _ (by simp)).trans (World.cell?_setCell_same _ _ _ t0)
  have R1 : Hid (((w2.setCell ⟨w.heap.size, 0, none⟩ (.int .i64 n)).setCell ⟨w.heap.size, 1, none⟩ (.slice Y X.length cy)).cell? ⟨w.heap.size, 1, none⟩ = some (.slice Y X.length cy)) := World.cell?_setCell_same _ _ _ ((World.cell?_setCell_other _ _ _ _ (by simp)).trans t1)
  clear ho hg T2 hK hX
  go_wp2
  have r0 := R0.out
  have r1 := R1.out
  refine bodyPost_ret (v := .agg #[.int .i64 n, .slice Y X.length cy]) (by simp only [results, Tryd.results4]; simp [go_sem, r0, r1]) rfl ⟨n, L, _, rfl, HK.out, by rw [← HX.out]; exact HO.out.mono (by omega), HB.out⟩
end Go.Proofs.YthoodjjjklbggaaDoor

namespace Go.Proofs.YthoodjjjklbggaaDoor
open Go.RowKit Go.Sort
set_option maxRecDepth 100000
set_option maxHeartbeats 2000000 in
theorem makeTour_any (w : World) (v : Value) (k m : Int) (n most : Nat) (hk : k = n) (hm : m = most) (hn : n ≤ 1000) (hm1 : 2 ≤ most) (hm8 : most ≤ 7) (hv : BytesV w w.heap.size v) :
    Calls Tryd.prog 15 #[v, .int .i64 k, .int .i64 m] w fun e w' => ∃ (s : Nat) (sl : Value) (xs : List Int), e = .returned (.agg #[.int .i64 s, sl]) ∧ s ≤ most ∧ tourP s xs ∧ Own w' w.heap.size sl xs ∧ Below w.heap.size w w' := by
  subst hm
  have HV := Lib.hid hv
  have HK := Lib.hid hk
  have HT0 := Lib.hid (BoxF.new w 0 (.slice none 0 0) 25)
  have HB0 := Lib.hid (below_alloc1 w (.cells #[.int .i64 0, .slice none 0 0] 25))
  have e1 : (most : Int) < 8 := by omega
  have e2 : (1 : Int) < (most : Int) := by omega
  clear hv hk
  go_enter Tryd.func15, Tryd.ntmps15
  go_wp2_with fail
  generalize w.alloc (.cells #[.int .i64 0, .slice none 0 0] 25) = w0 at *
  have hg0 := HT0.out.gt
  go_wp2_with fail
  refine (l32New_lit w0 v k n HK.out hn ((HV.out.keep fun p hp => HB0.out.cell hp).mono HB0.out.size)).mono ?_
  rintro e w1 ⟨g, rfl, hc1, hb1⟩
  have HC1 := Lib.hid hc1
  have HT1 := Lib.hid (HT0.out.below hb1)
  have HB1 := Lib.hid (Below.then HB0.out hb1)
  have hgw : w.heap.size < g := Nat.lt_of_lt_of_le hg0 hc1.le
  have hw1 : w.heap.size ≤ w1.heap.size := HB1.out.size
  clear hc1 hb1
  go_wp2_with fail
  refine (l05Draw_any w0.heap.size w1 g v most (by omega) (by omega) HC1.out).mono ?_
  rintro e w2 ⟨C, sl, rs, rfl, hC, hr, ho, hg⟩
  obtain ⟨Y, cy, rfl, -, -, -⟩ := ho.form
  have HR := Lib.hid hr
  have T2 := HT1.out.kept hg (by simp; omega)
  have hlt : w.heap.size < w1.heap.size := HT1.out.gt
  have t0 := T2.1.1
  have t1 := T2.1.2
  have f0 := T2.2 0
  have f1 := T2.2 1
  have HO := Lib.hid (((ho.kept (setCell_grown _ ⟨w.heap.size, 0, none⟩ (.int .i64 C)) (own_ne (fun k hk => (ho.lt k hk).1) (by simp; omega))).kept (setCell_grown _ ⟨w.heap.size, 1, none⟩ (.slice Y rs.length cy)) (own_ne (fun k hk => (ho.lt k hk).1) (by simp; omega))))
  have HB2 := Lib.hid (HB1.out.grown hg HB1.out.size (fun k hk => by injection hk with hk; omega))
  have HB := Lib.hid ((HB2.out.setCell (p := ⟨w.heap.size, 0, none⟩) (Nat.le_refl _) (.int .i64 C)).setCell (p := ⟨w.heap.size, 1, none⟩) (Nat.le_refl _) (.slice Y rs.length cy))
  have R0 : Hid (((w2.setCell ⟨w.heap.size, 0, none⟩ (.int .i64 C)).setCell ⟨w.heap.size, 1, none⟩ (.slice Y rs.length cy)).cell? ⟨w.heap.size, 0, none⟩ = some (.int .i64 C)) := (World.cell?_setCell_other _ _ _ _ (by simp)).trans (World.cell?_setCell_same _ _ _ t0)
  have R1 : Hid (((w2.setCell ⟨w.heap.size, 0, none⟩ (.int .i64 C)).setCell ⟨w.heap.size, 1, none⟩ (.slice Y rs.length cy)).cell? ⟨w.heap.size, 1, none⟩ = some (.slice Y rs.length cy)) := World.cell?_setCell_same _ _ _ ((World.cell?_setCell_other _ _ _ _ (by simp)).trans t1)
  clear ho hg T2 hr
  go_wp2
  have r0 := R0.out
  have r1 := R1.out
  refine bodyPost_ret (v := .agg #[.int .i64 C, .slice Y rs.length cy]) (by simp only [results, Tryd.results15]; simp [go_sem, r0, r1]) rfl ⟨C, _, rs, rfl, hC, HR.out, HO.out.mono (by omega), HB.out⟩
set_option maxHeartbeats 2000000 in
theorem makeOrder_any (w : World) (v : Value) (k : Int) (n s : Nat) (hk : k = n) (hn : n ≤ 1000) (hs1 : 1 ≤ s) (hs8 : s ≤ 7) (hv : BytesV w w.heap.size v) :
    Calls Tryd.prog 16 #[v, .int .i64 k, .int .i64 s] w fun e w' => ∃ (sl : Value) (ns : List Int), e = .returned sl ∧ PermP s ns ∧ Own w' w.heap.size sl ns ∧ Below w.heap.size w w' := by
  have HV := Lib.hid hv
  have HK := Lib.hid hk
  clear hv hk
  have e1 : (s : Int) < 8 := by omega
  by_cases h1 : s = 1
  · subst h1
    go_enter Tryd.func16, Tryd.ntmps16
    go_wp2_with fail
    refine (l32New_lit w v k n HK.out hn HV.out).mono ?_
    rintro e w1 ⟨g, rfl, hc1, hb1⟩
    have HC1 := Lib.hid hc1
    have HB1 := Lib.hid hb1
    clear hc1 hb1
    go_wp2_with fail
    refine (l02Order_any w.heap.size w1 g v 1 (by omega) HC1.out).mono ?_
    rintro e w2 ⟨sl, ns, rfl, hP, ho, hc2, hg⟩
    have hgw := HC1.out.le
    have HB := Lib.hid (HB1.out.grown hg HB1.out.size (fun k hk => by injection hk with hk; omega))
    have HO := Lib.hid (ho.mono HB1.out.size)
    have HP := Lib.hid hP
    obtain ⟨Y, cy, rfl, -, -, -⟩ := ho.form
    clear ho hc2 hg hP
    go_wp2
    go_ret
    exact ⟨_, ns, rfl, HP.out, HO.out, HB.out⟩
  · have e2 : (1 : Int) < (s : Int) := by omega
    go_enter Tryd.func16, Tryd.ntmps16
    go_wp2_with fail
    refine (l32New_lit w v k n HK.out hn HV.out).mono ?_
    rintro e w1 ⟨g, rfl, hc1, hb1⟩
    have HC1 := Lib.hid hc1
    have HB1 := Lib.hid hb1
    clear hc1 hb1
    go_wp2_with fail
    refine (l02Order_any w.heap.size w1 g v s (by omega) HC1.out).mono ?_
    rintro e w2 ⟨sl, ns, rfl, hP, ho, hc2, hg⟩
    have hgw := HC1.out.le
    have HB := Lib.hid (HB1.out.grown hg HB1.out.size (fun k hk => by injection hk with hk; omega))
    have HO := Lib.hid (ho.mono HB1.out.size)
    have HP := Lib.hid hP
    obtain ⟨Y, cy, rfl, -, -, -⟩ := ho.form
    clear ho hc2 hg hP
    go_wp2
    go_ret
    exact ⟨_, ns, rfl, HP.out, HO.out, HB.out⟩
end Go.Proofs.YthoodjjjklbggaaDoor

namespace Go.Proofs.YthoodjjjklbggaaDoor
open Go.RowKit Go.Sort
set_option maxRecDepth 100000
variable {n : Nat} {sl sl2 : Value} {xs ys : List Int} {w : World}
set_option maxHeartbeats 4000000 in
theorem cSameT (hp : tourP n xs) (h : Rd w sl xs) (hp2 : tourP n ys) (h2 : Rd w sl2 ys) :
    Calls Tryd.prog 14 #[.agg #[.int .i64 n, sl], .agg #[.int .i64 n, sl2]] w fun e w' => e = .returned (.bool (decide (xs = ys))) ∧ Below w.heap.size w w' := by
  have HR := Lib.hid h
  have HR2 := Lib.hid h2
  have HP := Lib.hid hp
  have HP2 := Lib.hid hp2
  obtain ⟨A, c, rfl, -, -, -⟩ := h
  obtain ⟨B, d, rfl, -, -, -⟩ := h2
  rw [tour_len hp] at *
  rw [tour_len hp2] at *
  clear hp hp2
  obtain ⟨b, hb⟩ : ∃ b, b = decide (xs = ys) := ⟨_, rfl⟩
  rw [← hb]
  have HBE := Lib.hid hb
  clear hb
  go_enter Tryd.func14, Tryd.ntmps14
  have bx := (below_alloc1 w (.cells #[.int .i64 n, .slice A n c] 25)).alloc (by simp) (.cells #[.int .i64 n, .slice B n d] 25)
  have tx := (TBox.new w n (.slice A n c) 25).below (below_alloc1 _ (.cells #[.int .i64 n, .slice B n d] 25))
  have tx2 := TBox.new (w.alloc (.cells #[.int .i64 n, .slice A n c] 25)) n (.slice B n d) 25
  simp only [World.size_alloc] at tx2
  go_wp2_with fail
  generalize (w.alloc (.cells #[.int .i64 n, .slice A n c] 25)).alloc (.cells #[.int .i64 n, .slice B n d] 25) = w0 at *
  have HB0 := Lib.hid bx
  have HA0 := Lib.hid tx
  have HC0 := Lib.hid tx2
  clear bx tx tx2
  have y0 := HA0.out.1
  have y1 := HA0.out.2
  have x0 := HC0.out.1
  have x1 := HC0.out.2
  go_wp2_with fail
  refine (implTourOk n _ xs _ (HR.out.below HB0.out)).mono ?_
  rintro e w1 ⟨rfl, hb1⟩
  rw [tourB_true.2 HP.out]
  have HA1 := Lib.hid (HA0.out.below hb1)
  have HC1 := Lib.hid (HC0.out.below hb1)
  have HB1 := Lib.hid (Below.then HB0.out hb1)
  clear hb1 y0 y1 x0 x1 HA0 HC0 HB0
  have y0 := HA1.out.1
  have y1 := HA1.out.2
  have x0 := HC1.out.1
  have x1 := HC1.out.2
  go_wp2_with fail
  refine (implTourOk n _ ys _ (HR2.out.below HB1.out)).mono ?_
  rintro e w2 ⟨rfl, hb2⟩
  rw [tourB_true.2 HP2.out]
  have HA2 := Lib.hid (HA1.out.below hb2)
  have HC2 := Lib.hid (HC1.out.below hb2)
  have HB2 := Lib.hid (Below.then HB1.out hb2)
  clear hb2 y0 y1 x0 x1 HA1 HC1 HB1
  have y0 := HA2.out.1
  have y1 := HA2.out.2
  have x0 := HC2.out.1
  have x1 := HC2.out.2
  go_wp2_with fail
  refine (same_any n _ _ xs ys _ (HR.out.below HB2.out) (HR2.out.below HB2.out)).mono ?_
  rintro e w3 ⟨rfl, hb3⟩
  rw [← HBE.out]
  have HB3 := Lib.hid (Below.then HB2.out hb3)
  clear hb3 y0 y1 x0 x1
  go_wp2
  go_ret
  exact ⟨rfl, HB3.out⟩
end Go.Proofs.YthoodjjjklbggaaDoor

namespace Go.Proofs.YthoodjjjklbggaaDoor
open Go.ChangeShapes Go.WideShapes Go.ChangeAt Go.RowKit Go.Joins
set_option maxRecDepth 100000
section
variable {H : Type} {enc : TypeId × Value → H} {W : World} {base b0 : Nat} {spare : Nat → Bool} {held : Bool} {v : Value} {d : DataW H} {p : List MemPlace} {r : Reach}
theorem bytes_of {fuel : Nat} {x : DataW H × List MemPlace} {v : Value} (hf : DataW.trod enc Tryd.prog W base spare held fuel 22 [v] = some x) : BytesV W W.heap.size v := by
  rcases open_ints Tryd.underlying22 Tryd.underlying5 (by kernel_rfl) hf with ⟨hcs, _⟩ | ⟨y, l, c, zs, hcs, _, hl, hm, hz, _, hcell, hwz⟩
  · simp at hcs
    subst hcs
    exact ⟨none, 0, 0, rfl, Nat.le_refl _, by unfold maxLen; omega, fun h => absurd h (by omega)⟩
  · simp at hcs
    subst hcs
    refine ⟨some y, l, c, rfl, hl, hm, fun h0 => ?_⟩
    have hzl : l ≤ zs.length := by rw [hz]; split <;> omega
    obtain ⟨b, off, spot⟩ := y
    have h00 := hcell 0 (by omega)
    have hspot : spot = none := by simpa [Addr.add] using World.cell?_spot h00
    subst hspot
    refine ⟨b, off, rfl, by have := World.block_lt_of_cell? W _ h00; simpa [Addr.add] using this, fun k hk => ?_⟩
    have hb := bounds_u8 (hwz (zs.getD k 0) (by rw [show zs.getD k 0 = zs[k] by simp [show k < zs.length by omega]]; exact List.getElem_mem _))
    obtain ⟨x, hx⟩ := Int.eq_ofNat_of_zero_le hb.1
    refine ⟨x, by omega, ?_⟩
    have := hcell k (by omega)
    rw [Addr.add_lit, hx] at this
    exact this
theorem open_bytesv (hv : Value.okWide Tryd.prog W r b0 22 v) (h : DataW.Trod enc Tryd.prog W base spare held 22 v d p) : BytesV W W.heap.size v := by
  obtain ⟨a0, len0, cap0, rfl⟩ := okWide_slice Tryd.underlying22 hv
  obtain ⟨fuel, hf⟩ := h
  exact bytes_of hf
end
end Go.Proofs.YthoodjjjklbggaaDoor

namespace Go.Proofs.YthoodjjjklbggaaDoor
open Go.RowKit Go.Sort
section
variable {P : Program} {md : Region.Mode} {S : World → Prop} {Q : Exit → Act → World → Prop}
theorem hTake {l0 rest : List Oper} {i : Nat} {oi : Oper} {v : Value} {fuel : Nat} {listed : Array Bool} {a : Act} {w : World} (hd : l0.drop i = oi :: rest)
    (hs : Region.noSelect l0.toArray = true) (hf : Region.free md l0.toArray listed i = true) (hr : (Region.ready md l0.toArray listed).contains i = true)
    (hQ : ∀ c a w, Q (.panic c) (a.put oi.dst v) w → Q (.panic c) a w) (hy : YieldsIf P l0.toArray S oi v a) (hS : S w)
    (h : wpAnyH P md l0.toArray Q S fuel (listed.setIfInBounds i true) (a.put oi.dst v) w) : wpAnyH P md l0.toArray Q S (fuel + 1) listed a w :=
  wpAnyH_take (drop_at hd) hs hf hr hQ hy hS h
theorem hSkip {l0 rest : List Oper} {i : Nat} {oi : Oper} {fuel : Nat} {listed : Array Bool} {a : Act} {w : World} (hd : l0.drop i = oi :: rest)
    (hs : Region.noSelect l0.toArray = true) (hf : Region.free md l0.toArray listed i = true) (hr : (Region.ready md l0.toArray listed).contains i = true)
    (hQ : ∀ c a w, Q (.panic c) (a.put oi.dst undef) w → Q (.panic c) a w) (hy : Region.wanted oi (yielded l0.toArray a.tmps) = false) (hS : S w)
    (h : wpAnyH P md l0.toArray Q S fuel (listed.setIfInBounds i true) (a.put oi.dst undef) w) : wpAnyH P md l0.toArray Q S (fuel + 1) listed a w :=
  wpAnyH_take (drop_at hd) hs hf hr hQ (.inr ⟨hy, rfl⟩) hS h
theorem hStep {l0 rest : List Oper} {i : Nat} {o : Oper} {fuel : Nat} {listed : Array Bool} {a : Act} {w : World} {rs : List Nat} (hd : l0.drop i = o :: rest)
    (h : ∀ K' : Act → World → Prop, Shut (∀ a w, S w → (S w → wpAnyH P md l0.toArray Q S fuel (listed.setIfInBounds i true) a w) → K' a w) → if Region.wanted o (yielded l0.toArray a.tmps) = true then Oper.wp P o a w K' Q else K' (a.put o.dst undef) w)
    (hs : AllReadyH P md l0.toArray Q S fuel listed a w rs) : AllReadyH P md l0.toArray Q S fuel listed a w (i :: rs) := AllReadyH.cons (drop_at hd) h hs
end
end Go.Proofs.YthoodjjjklbggaaDoor

