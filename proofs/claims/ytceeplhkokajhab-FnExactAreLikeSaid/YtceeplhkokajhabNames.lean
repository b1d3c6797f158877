/- spec.l11Count, spec.l11Names. -/
import Derived.Test.YtceeplhkokajhabCls
import Derived.Test.YtceeplhkokajhabRotal
import Derived.Test.YtceeplhkokajhabClone
import Derived.Deep.RegionHeld3
namespace Go.Proofs.Ytceeplhkokajhab
open Go.RowKit Go.Sort
set_option maxRecDepth 100000
theorem fact_le : ∀ n, n ≤ 6 → factN n ≤ 720 := by decide
theorem turnL_nI (n : Nat) : turnL n n = nI (turnN n) := by
  unfold turnL nI turnN
  rw [List.map_map]
  refine List.map_congr_left fun a _ => ?_
  show ((a : Int) + 1) % n = (((a + 1) % n : Nat) : Int)
  simp
set_option maxHeartbeats 1000000 in
theorem l11Count_any (n : Nat) (hn : n ≤ 6) (h1 : 1 ≤ n) (w : World) : Calls Try.prog 38 #[.int .i64 n] w fun e w' => e = .returned (.int .i64 (factN n : Nat)) ∧ w = w' := by
  go_enter Try.func38, Try.ntmps38
  go_wp2
  go_loop [3, 4] (fun k i => ∃ j : Nat, j ≤ n ∧ 1 ≤ j ∧ i = .int .i64 (j + 1 : Nat) ∧ k = .int .i64 (factN j : Nat)) (fun _ i => n + 1 - (intOf i).toNat)
  case atStart => exact ⟨1, h1, Nat.le_refl _, rfl, rfl⟩
  case round =>
    obtain ⟨j, hj, hj1, rfl, rfl⟩ := hrel
    by_cases hlt : j < n
    · have HF : Hid (factN (j + 1) = factN j * (j + 1)) := rfl
      have h2 := fact_le j (by omega)
      have h3 := fact_le (j + 1) (by omega)
      rw [HF.out] at h3
      have h4 : (factN j : Int) * ((j : Int) + 1) = ((factN j * (j + 1) : Nat) : Int) := by simp
      have h5 : IntKind.i64.wrap ((factN j : Int) * ((j : Int) + 1)) = ((factN j * (j + 1) : Nat) : Int) := by rw [h4]; exact IntWalk.i64_in _ (by omega)
      generalize hq : factN j * (j + 1) = q at *
      generalize factN j = p at *
      clear h4 hq
      go_wp2
      go_round
      case rel => exact ⟨j + 1, by omega, by omega, by go_num, by rw [HF.out]⟩
      case measure => simp [intOf]; omega
    · obtain rfl : n = j := by omega
      go_wp2
      go_ret
      exact ⟨rfl, rfl⟩
theorem step_appendNI {ops : Array Oper} {o : Oper} {a : Act} {K : Act → World → Prop} {Q : Exit → Act → World → Prop} {E : Prop} (w : World) (hgd : o.guard = none) (s x : Operand)
    (ho : o.op = .call { callee := .builtin .append, args := #[s, x], argTypes := #[22, 22] })
    (base : Nat) (v : Value) (xs ys : List Int) (m : Nat) (hm : ys.length = m) (ad : Addr) (c : Nat) (hs : a.eval s = v) (hown : Own w base v xs) (hx : a.eval x = .slice (some ad) m c) (hc : ∀ k, k < m → w.cell? (ad.add k) = some (.int .i64 (ys.getD k 0)))
    (hlen : xs.length + m ≤ 1099511627776) (hbase : base ≤ w.heap.size)
    (h : ∀ v' w', Own w' base v' (xs ++ ys) → w.grownBy w' v.ownBlock → K (a.put o.dst v') w') :
    if Region.wanted o (yielded ops a.tmps) = true then Oper.wp Try.prog o a w K Q else E := by
  subst hm
  have hw : Region.wanted o (yielded ops a.tmps) = true := by simp [Region.wanted, hgd]
  rw [if_pos hw]
  obtain ⟨i0, hi, hz0, hz1, hz2⟩ := info_parts i64_info
  have hnews : ∀ j u, (ys.map (Value.int .i64))[j]? = some u → w.cell? (ad.add j) = some u := by
    intro j u hj
    have hjl : j < ys.length := by simpa using (List.getElem?_eq_some_iff.1 hj).1
    rw [hc j hjl]
    simp [hjl] at hj
    simp [hjl, hj]
  obtain ⟨v', w', hr, h2, h3, -, -⟩ := run_append_own_at (P := Try.prog) w base 22 o.type 3 i0 (.int .i64 0) 1 8 Try.underlying22 hi hz0 hz1 hz2 rfl (by decide) v xs.length (xs.map (Value.int .i64)) hown ad ys.length c (ys.map (Value.int .i64)) (by simp) hnews (by intro u hu; simp at hu; obtain ⟨y, -, rfl⟩ := hu; rfl) (by unfold maxLen; omega) (by omega) hbase
  unfold Oper.wp execOp
  simp only [ho, resolve, invoke, builtin, Sem.run_bind, Sem.run_pure, Result.andThen_ok, List.map_toArray, List.map_cons, List.map_nil, hs, hx, hr]
  exact h v' w' (by unfold Own; rw [List.length_append, List.map_append]; exact h2) h3
theorem apart_symm' {v u : Value} (h : v.ownBlock = none ∨ v.ownBlock ≠ u.ownBlock) : u.ownBlock = none ∨ u.ownBlock ≠ v.ownBlock := by
  rcases e : u.ownBlock with _ | g
  · exact .inl rfl
  · right
    rcases h with h | h
    · rw [h]; simp
    · rw [e] at h; exact Ne.symm h
set_option maxHeartbeats 4000000 in
theorem l11Names_any (n : Nat) (hn : n ≤ 6) (h1 : 1 ≤ n) (i : Nat) (hi : i < 1000000) (w : World) :
    Calls Try.prog 41 #[.int .i64 n, .int .i64 i] w fun e w' => ∃ v', e = .returned v' ∧ Own w' w.heap.size v' (nI (nameAt n i (turnN n))) ∧ Below w.heap.size w w' := by
  go_enter Try.func41, Try.ntmps41
  go_wp2_with fail
  refine (l11Turn_any n h1 (by omega) w).mono ?_
  rintro e w1 ⟨v1, rfl, ho1, hb1⟩
  obtain ⟨A1, c1, rfl, -, -, -⟩ := ho1.form
  rw [turnL_nI, nI_len] at ho1
  rw [turnL_nI, nI_len]
  have hlt : (turnN n).length = n := by simp [turnN]
  rw [hlt] at ho1
  rw [hlt]
  have HLT := Lib.hid hlt
  have HO1 := Lib.hid (ho1.below (below_alloc1 w1 (.cells #[] 3)))
  have hs1 := hb1.size
  have HE1 := Lib.hid (Own.lit w1 w1.heap.size [] (Nat.le_refl _) (by simp))
  have HAP := Lib.hid (Own.apart ho1 HE1.out (Nat.le_refl _))
  have HB1 := Lib.hid (Below.then hb1 (below_alloc1 w1 (.cells #[] 3)))
  clear hlt ho1 hb1
  go_wp2
  go_loopw [1, 6, 5, 7] (fun ix vo vl k wr => ∃ (j x : Nat) (o L : List Nat), j ≤ n ∧ k = .int .i64 j ∧ ix = .int .i64 x ∧ x < 1000000 ∧ Hid (L.length = j) ∧ Hid (o.length + j = n) ∧ Hid (o ++ nameAt j x L = nameAt n i (turnN n)) ∧ Hid (Own wr w.heap.size vl (nI L)) ∧ Hid (Own wr w.heap.size vo (nI o)) ∧ Hid (vl.ownBlock = none ∨ vl.ownBlock ≠ vo.ownBlock) ∧ Hid (Below w.heap.size w wr)) (fun _ _ _ k _ => (intOf k).toNat)
  case atStart => exact ⟨n, i, [], turnN n, Nat.le_refl _, rfl, rfl, hi, HLT.out, by simp [Hid], rfl, HO1.out, HE1.out.mono hs1, HAP.out, HB1.out⟩
  case round =>
    obtain ⟨j, x, o, L, hj, rfl, rfl, hx, HLL, HOL, HNM, HVL, HVO, HAQ, HBR⟩ := hrel
    obtain ⟨wo, rfl⟩ : ∃ x, x = wr := ⟨_, rfl⟩
    by_cases hj0 : 0 < j
    · obtain ⟨m, rfl⟩ : ∃ m, j = m + 1 := ⟨j - 1, by omega⟩
      obtain ⟨g, c, rfl, hbg, hcm, hlc, hcell, hfr⟩ := HVL.out.at_ (n := m + 1) (by rw [nI_len, HLL.out]) (by omega)
      have hgw := (HVL.out.lt g rfl).2
      obtain ⟨r, hr⟩ : ∃ r, x % (m + 1) = r := ⟨_, rfl⟩
      obtain ⟨q, hq⟩ : ∃ q, x / (m + 1) = q := ⟨_, rfl⟩
      have hrm : r < m + 1 := by rw [← hr]; exact Nat.mod_lt _ (by omega)
      have hqx : q ≤ x := by rw [← hq]; exact Nat.div_le_self _ _
      have e1 : (x : Int) % ((m : Int) + 1) = (r : Int) := by rw [← hr]; simp
      have e2 : (x : Int) / ((m : Int) + 1) = (q : Int) := by rw [← hq]; simp
      have e1' : Int.tmod (x : Int) ((m : Int) + 1) = (r : Int) := by rw [Int.tmod_eq_emod_of_nonneg (by omega)]; exact e1
      have e2' : Int.tdiv (x : Int) ((m : Int) + 1) = (q : Int) := by rw [Int.tdiv_eq_ediv_of_nonneg (by omega)]; exact e2
      have hcr := hcell r hrm
      rw [nI_getD (by rw [HLL.out]; exact hrm)] at hcr
      have HNX : Hid (nameAt (m + 1) x L = L.getD r 0 :: nameAt m q (L.take r ++ L.drop (r + 1))) := by unfold Hid; rw [nameAt, hr, hq]
      have HCL := Lib.hid hcell
      generalize hy : L.getD r 0 = y at *
      have HY := Lib.hid hy
      clear hr hq hcell hfr hy
      have hlo : (nI o).length ≤ 1099511627776 := by have := HOL.out; rw [nI_len]; omega
      have hsw := HBR.out.size
      unfold maxLen at hcm
      have i1 : (0 : Int) ≤ r := by omega
      have i2 : (r : Int) < (m : Int) + 1 := by omega
      have i3 : (0 : Int) ≤ (m : Int) + 1 := by omega
      go_wp2_with (at_builtin; refine wp_append1 _ rfl (.tmp 23) (.tmp 28) rfl w.heap.size _ (nI o) (y : Int) rfl HVO.out (by simp [Act.eval]) hlo hsw ?_; intro v7 w7 hown7 hg7; have HO7 := Lib.hid hown7; have HL7 := Lib.hid (HVL.out.kept hg7 HAQ.out); have HB7 := Lib.hid (below_append HBR.out hg7 HVO.out (Nat.le_refl _) hsw); have hg7w : g < w7.heap.size := Nat.lt_of_lt_of_le hgw hg7.size; clear hown7 hg7)
      have hw1 : IntKind.i64.wrap ((r : Int) + 1) = (r : Int) + 1 := IntWalk.i64_in _ (by omega)
      have hw2 : ((r : Int) + 1).toNat = r + 1 := by omega
      have HLE := Lib.hid (show Own (w7.drew.alloc (.cells #[] 3)) w7.heap.size (.slice (some ⟨w7.heap.size, 0, none⟩) 0 0) [] from Own.lit w7.drew w7.heap.size [] (Nat.le_refl _) (by simp))
      have HC8 : Hid (∀ k, k < r → (w7.drew.alloc (.cells #[] 3)).cell? ((⟨g, 0, none⟩ : Addr).add k) = some (.int .i64 ((nI (L.take r)).getD k 0))) := fun k hk => by
        have hkl : k < L.length := by rw [HLL.out]; omega
        have h1 := ((HL7.out.at1 (by rw [nI_len]; exact HLL.out) (by omega)).1 k (by omega))
        rw [nI_getD hkl] at h1
        rw [nI_getD (by rw [List.length_take]; omega), Addr.add_lit, Nat.zero_add, show (L.take r).getD k 0 = L.getD k 0 by rw [List.getD_eq_getElem?_getD, List.getElem?_take, if_pos hk, ← List.getD_eq_getElem?_getD]]
        exact ((below_alloc1 w7.drew _).cell (p := ⟨g, k, none⟩) hg7w).trans h1
      have HC9 : ∀ W, Own W w.heap.size (.slice (some ⟨g, 0, none⟩) (m + 1) c) (nI L) → ∀ k, k < m - r → W.cell? ((⟨g, r + 1, none⟩ : Addr).add k) = some (.int .i64 ((nI (L.drop (r + 1))).getD k 0)) := fun W hW k hk => by
        have hkl : r + 1 + k < L.length := by rw [HLL.out]; omega
        have h1 := ((hW.at1 (by rw [nI_len]; exact HLL.out) (by omega)).1 (r + 1 + k) (by omega))
        rw [nI_getD hkl] at h1
        rw [nI_getD (by rw [List.length_drop]; omega), Addr.add_lit, show (L.drop (r + 1)).getD k 0 = L.getD (r + 1 + k) 0 by rw [List.getD_eq_getElem?_getD, List.getElem?_drop, ← List.getD_eq_getElem?_getD]]
        exact h1
      have HLR : Hid ((nI (L.take r)).length = r) := by unfold Hid; rw [nI_len, List.length_take, HLL.out]; omega
      have HLD : Hid ((nI (L.drop (r + 1))).length = m - r) := by unfold Hid; rw [nI_len, List.length_drop, HLL.out]; omega
      have hl8 : ([] : List Int).length + r ≤ 1099511627776 := by simp; omega
      have hl9 : (nI (L.take r)).length + (m - r) ≤ 1099511627776 := by rw [HLR.out]; omega
      have HL7' := Lib.hid (Own.below HL7.out (show Below w7.heap.size w7 (w7.drew.alloc (.cells #[] 3)) from ((Below.refl _ _).drew).alloc (Nat.le_refl _) _))
      have bD : Below w7.heap.size w7 (w7.drew.alloc (.cells #[] 3)) := ((Below.refl _ _).drew).alloc (Nat.le_refl _) _
      have i4 : (r : Int) ≤ (c : Int) := by omega
      have i5 : (r : Int) + 1 ≤ (m : Int) + 1 := by omega
      have i6 : (m : Int) + 1 ≤ (c : Int) := by omega
      by_cases hcap : r + 1 = c
      · have hrm2 : r = m := by omega
        subst hrm2
        subst hcap
        have HLD0 : Hid ((nI (L.drop (r + 1))).length = 0) := by have := HLD.out; unfold Hid; omega
        have hl90 : (nI (L.take r)).length + 0 ≤ 1099511627776 := by rw [HLR.out]; omega
        clear hrm i4 i5 i6 hlc hl9
        have i4' : (r : Int) ≤ (r : Int) + 1 := by omega
        go_region_held3 (fun W => True) (trivial)
          (first
          | (refine step_appendNI (w7.drew.alloc (.cells #[] 3)) rfl (.tmp 30) (.tmp 33) rfl w7.heap.size (.slice (some ⟨w7.heap.size, 0, none⟩) 0 0) [] (nI (L.take r)) r HLR.out ⟨g, 0, none⟩ (r + 1) (by simp [Act.eval]) HLE.out (by simp [Act.eval]) HC8.out hl8 (by simp) ?_; intro v8 w8 ho8 hg8; have HO8 := Lib.hid (show Own w8 w7.heap.size v8 (nI (L.take r)) from ho8); have HG8 := Lib.hid hg8; have HS8 := Lib.hid (show w7.heap.size ≤ w8.heap.size from Nat.le_trans (by simp) hg8.size); have HL8 := Lib.hid (HL7'.out.kept hg8 (.inr (by intro e; injection e with e; have e : g = w7.heap.size := e; omega))); clear ho8 hg8)
          | (refine step_appendNI w8 rfl (.tmp 34) (.tmp 38) rfl w7.heap.size v8 (nI (L.take r)) (nI (L.drop (r + 1))) 0 HLD0.out ⟨g, 0, none⟩ 0 (by simp [Act.eval]) HO8.out (by simp [Act.eval]) (fun k hk => absurd hk (by omega)) hl90 HS8.out ?_; intro v9 w9 ho9 hg9; have HO9 := Lib.hid ho9; have HG9 := Lib.hid hg9; clear ho9 hg9))
        all_goals
          have B9 := Lib.hid ((bD.grown HG8.out (by simp) (fun k hk => by injection hk with hk; have hk : w7.heap.size = k := hk; omega)).grown HG9.out HS8.out (fun k hk => (HO8.out.lt k hk).1))
          have HN9 := Lib.hid (show Own w9 w7.heap.size v9 (nI (L.take r ++ L.drop (r + 1))) from by have h9 := HO9.out; rw [show nI (L.take r ++ L.drop (r + 1)) = nI (L.take r) ++ nI (L.drop (r + 1)) by simp [nI]]; exact h9)
          have HO9' := Lib.hid (HO7.out.below B9.out)
          have HA9 := Lib.hid (apart_symm' (Own.apart HO7.out HN9.out (Nat.le_refl _)))
          have HB9 := Lib.hid (Below.then HB7.out B9.out)
          have hs7 := HB7.out.size
          clear HG8 HG9 HO8 HS8 HL8 HO9 B9 HL7 HL7' HLE HC8 bD
          go_wp2
          go_roundw
          case rel => exact ⟨r, q, o ++ [y], L.take r ++ L.drop (r + 1), by omega, by go_num, rfl, by omega, by (have := HLL.out; unfold Hid; rw [List.length_append, List.length_take, List.length_drop]; omega), by (have := HOL.out; unfold Hid; rw [List.length_append]; simp; omega), by (have := HNM.out; rw [HNX.out] at this; unfold Hid; rw [List.append_assoc]; exact this), HN9.out.mono hs7, by (rw [nI_snoc]; exact HO9'.out), HA9.out, HB9.out⟩
          case measure => first | (simp [intOf]; done) | (simp [intOf]; omega)
      · have hcap2 : r + 1 < c := by omega
        have i7 : (r : Int) + 1 < (c : Int) := by omega
        have hne : ¬ c = r + 1 := by omega
        have i10 : (0 : Int) ≤ (r : Int) + 1 := by omega
        clear hcap
        go_region_held3 (fun W => True) (trivial)
          (first
          | (refine step_appendNI (w7.drew.alloc (.cells #[] 3)) rfl (.tmp 30) (.tmp 33) rfl w7.heap.size (.slice (some ⟨w7.heap.size, 0, none⟩) 0 0) [] (nI (L.take r)) r HLR.out ⟨g, 0, none⟩ c (by simp [Act.eval]) HLE.out (by simp [Act.eval]) HC8.out hl8 (by simp) ?_; intro v8 w8 ho8 hg8; have HO8 := Lib.hid (show Own w8 w7.heap.size v8 (nI (L.take r)) from ho8); have HG8 := Lib.hid hg8; have HS8 := Lib.hid (show w7.heap.size ≤ w8.heap.size from Nat.le_trans (by simp) hg8.size); have HL8 := Lib.hid (HL7'.out.kept hg8 (.inr (by intro e; injection e with e; have e : g = w7.heap.size := e; omega))); clear ho8 hg8)
          | (refine step_appendNI w8 rfl (.tmp 34) (.tmp 38) rfl w7.heap.size v8 (nI (L.take r)) (nI (L.drop (r + 1))) (m - r) HLD.out ⟨g, r + 1, none⟩ (c - (r + 1)) (by simp [Act.eval]) HO8.out (by simp [Act.eval]) (HC9 _ HL8.out) hl9 HS8.out ?_; intro v9 w9 ho9 hg9; have HO9 := Lib.hid ho9; have HG9 := Lib.hid hg9; clear ho9 hg9))
        all_goals
          have B9 := Lib.hid ((bD.grown HG8.out (by simp) (fun k hk => by injection hk with hk; have hk : w7.heap.size = k := hk; omega)).grown HG9.out HS8.out (fun k hk => (HO8.out.lt k hk).1))
          have HN9 := Lib.hid (show Own w9 w7.heap.size v9 (nI (L.take r ++ L.drop (r + 1))) from by have h9 := HO9.out; rw [show nI (L.take r ++ L.drop (r + 1)) = nI (L.take r) ++ nI (L.drop (r + 1)) by simp [nI]]; exact h9)
          have HO9' := Lib.hid (HO7.out.below B9.out)
          have HA9 := Lib.hid (apart_symm' (Own.apart HO7.out HN9.out (Nat.le_refl _)))
          have HB9 := Lib.hid (Below.then HB7.out B9.out)
          have hs7 := HB7.out.size
          clear HG8 HG9 HO8 HS8 HL8 HO9 B9 HL7 HL7' HLE HC8 bD
          go_wp2
          go_roundw
          case rel => exact ⟨m, q, o ++ [y], L.take r ++ L.drop (r + 1), by omega, by go_num, rfl, by omega, by (have := HLL.out; unfold Hid; rw [List.length_append, List.length_take, List.length_drop]; omega), by (have := HOL.out; unfold Hid; rw [List.length_append]; simp; omega), by (have := HNM.out; rw [HNX.out] at this; unfold Hid; rw [List.append_assoc]; exact this), HN9.out.mono hs7, by (rw [nI_snoc]; exact HO9'.out), HA9.out, HB9.out⟩
          case measure => first | (simp [intOf]; done) | (simp [intOf]; omega)
    · obtain rfl : j = 0 := by omega
      have HNN : Hid (o = nameAt n i (turnN n)) := by have := HNM.out; rw [nameAt, List.append_nil] at this; exact this
      go_wp2
      go_ret
      exact ⟨_, rfl, by rw [← HNN.out]; exact HVO.out, HBR.out⟩
end Go.Proofs.Ytceeplhkokajhab
