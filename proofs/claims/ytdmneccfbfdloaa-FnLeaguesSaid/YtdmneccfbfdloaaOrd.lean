/- l09Order. -/
import Derived.Test.YtdmneccfbfdloaaSortI
import Derived.Test.YtdmneccfbfdloaaClone
import Derived.Test.YtdmneccfbfdloaaWay
namespace Go.Proofs.Ytdmneccfbfdloaa
open Go.RowKit Go.Sort
set_option maxRecDepth 100000
def idsL (n : Nat) : List Int := (List.range n).map fun (a : Nat) => (a : Int)
theorem idsL_succ (n : Nat) : idsL (n + 1) = idsL n ++ [(n : Int)] := by unfold idsL; rw [List.range_succ, List.map_append]; rfl
theorem idsL_len (n : Nat) : (idsL n).length = n := by simp [idsL]
theorem idsL_mem {n : Nat} {x : Int} (h : x ∈ idsL n) : ∃ a : Nat, a < n ∧ x = a := by
  unfold idsL at h
  rw [List.mem_map] at h
  obtain ⟨a, ha, e⟩ := h
  exact ⟨a, List.mem_range.1 ha, e.symm⟩
def befK (L : List Int) (x y : Int) : Bool := decide (L.getD y.toNat 0 < L.getD x.toNat 0)
def ordK (L : List Int) (i : Nat) : List Int := sortR (befK L) (idsL i)
theorem ordK_succ (L : List Int) (i : Nat) : ordK L (i + 1) = insR (befK L) (ordK L i) (i : Int) := by
  unfold ordK sortR
  rw [idsL_succ, List.foldl_append]; rfl
theorem ordK_len (L : List Int) (i : Nat) : (ordK L i).length = i := by
  have := sortR_len (befK L) (idsL i) (Nat.le_refl _)
  rw [List.take_length, idsL_len] at this
  exact this
theorem ordK_at {L : List Int} {i k : Nat} (h : k < i) : ∃ a : Nat, a < i ∧ (ordK L i).getD k 0 = a := by
  have h1 : (ordK L i).getD k 0 ∈ ordK L i := getD_memI (by rw [ordK_len]; exact h)
  have h2 : (ordK L i).getD k 0 ∈ idsL i := by
    have := mem_sortR (bef := befK L) (L := idsL i) (i := (idsL i).length) (Nat.le_refl _) (y := (ordK L i).getD k 0) (by rw [List.take_length]; exact h1)
    exact this
  exact idsL_mem h2
set_option maxHeartbeats 4000000 in
theorem l09Order_any (v : Value) (L : List Int) (w : World) (h : Rd w v L) (hn : L.length ≤ 1000) :
    Calls Try.prog 33 #[v] w fun e w' => ∃ v', e = .returned v' ∧ Own w' w.heap.size v' (ordK L L.length) ∧ Below w.heap.size w w' := by
  obtain ⟨A, c, rfl, hlc, hm, hc⟩ := h
  unfold maxLen at hm
  have HC := Lib.hid hc
  generalize hl : L.length = n at *
  have HL := Lib.hid hl
  clear hc hl
  have HL0 := Lib.hid (Own.lit w w.heap.size [] (Nat.le_refl _) (by simp))
  go_enter Try.func33, Try.ntmps33
  go_wp2
  go_loopw [3, 11] (fun o i wr => ∃ (k g d : Nat), k ≤ n ∧ i = .int .i64 k ∧ o = .slice (some ⟨g, 0, none⟩) k d ∧ k ≤ d ∧ d ≤ 9223372036854775807 ∧ Own wr w.heap.size (.slice (some ⟨g, 0, none⟩) k d) (ordK L k) ∧ Below w.heap.size w wr) (fun _ i _ => n - (intOf i).toNat)
  case atStart => exact ⟨0, _, 0, by omega, rfl, rfl, by omega, by omega, HL0.out, below_alloc1 _ _⟩
  case round =>
    obtain ⟨wo, rfl⟩ : ∃ x, x = wr := ⟨_, rfl⟩
    obtain ⟨i, g, d, hi, rfl, rfl, hid, hd, ho, hb⟩ := hrel
    have HO := Lib.hid ho
    have HB := Lib.hid hb
    clear ho hb
    by_cases hlt : i < n
    · obtain ⟨ga, oa, rfl, hga, hxa⟩ := HC.out (by omega)
      have HCELL := Lib.hid (fun (k : Nat) (hk : k < n) => (HB.out.cell (p := ⟨ga, oa + k, none⟩) hga).trans (hxa k hk))
      have hxi := HCELL.out i hlt
      have hSl := ordK_len L i
      have HAT := Lib.hid (fun (k : Nat) (hk : k < i) => ordK_at (L := L) hk)
      have HSU := Lib.hid (ordK_succ L i)
      have HBF : Hid (∀ a : Nat, befK L (i : Int) (a : Int) = decide (L.getD a 0 < L.getD i 0)) := fun a => rfl
      clear hxa
      generalize L.getD i 0 = xi at *
      generalize hS : ordK L i = S at *
      have HS := Lib.hid hS
      clear hS
      go_wp2
      go_loop [6] (fun t => ∃ k : Nat, k ≤ i ∧ t = .int .i64 k ∧ Hid (posR (befK L) (i : Int) S i = posR (befK L) (i : Int) S k)) (fun t => (intOf t).toNat)
      case atStart => exact ⟨i, by omega, rfl, rfl⟩
      case round =>
        obtain ⟨k, hk, rfl, HP⟩ := hrel
        rcases Nat.eq_zero_or_pos k with hk0 | hk0
        · have HPOS : Hid (posR (befK L) (i : Int) S S.length = k) := by unfold Hid; rw [hSl, HP.out, hk0]; rfl
          have hng : ¬ (0 : Int) < (k : Int) := by omega
          clear hk0
          have hq0 : k ≤ i := by omega
          have hqt : (S.take (k)).length = k := by rw [List.length_take, hSl]; omega
          have hqd : (S.drop (k)).length = i - (k) := by rw [List.length_drop, hSl]
          have HINS : Hid (S.take (k) ++ [(i : Int)] ++ S.drop (k) = ordK L (i + 1)) := by
            unfold Hid
            rw [HSU.out]
            unfold insR
            rw [HPOS.out]; simp
          have hsz := HB.out.size
          have HE := Lib.hid (Own.lit wo wo.heap.size [] (Nat.le_refl _) (by simp))
          have bE := below_alloc1 wo (.cells #[] 3)
          have HOC := Lib.hid (fun (k : Nat) (hk : k < i) => (HO.out.at1 hSl (by omega)).1 k hk)
          have hgw := (HO.out.lt g rfl).2
          have HC1 : Hid (∀ j, j < (S.take (k)).length → (wo.alloc (.cells #[] 3)).cell? ((⟨g, 0, none⟩ : Addr).add j) = some (.int .i64 ((S.take (k)).getD j 0))) := fun j hj => by
            rw [hqt] at hj
            rw [Addr.add_lit, Nat.zero_add, bE.cell (p := ⟨g, j, none⟩) hgw, HOC.out j (by omega)]
            simp [List.getD_eq_getElem?_getD, List.getElem?_take, hj]
          have HBE := Lib.hid bE
          clear bE
          by_cases hdq : d = k
          case pos =>
            go_wp2_with (first
              | (at_builtin; refine wp_appendN (wo.alloc (.cells #[] 3)) rfl (.tmp 34) (.tmp 37) rfl wo.heap.size _ [] rfl HE.out ⟨g, 0, none⟩ d (S.take (k)) (by rw [hqt]; simp [Act.eval] <;> omega) HC1.out (by simp; omega) (by simp) ?_; intro v1 w1 ho1 hg1; have HO1 : Hid (Own w1 wo.heap.size v1 (S.take (k))) := ho1; have HB1 := Lib.hid (Below.grown HBE.out hg1 (by simp) (fun k hk => (HE.out.lt k hk).1)); clear ho1 hg1)
              | (at_builtin; refine wp_append1 w1 rfl (.tmp 39) (.tmp 41) rfl wo.heap.size _ (S.take (k)) (i : Int) rfl HO1.out (by simp [Act.eval]) (by omega) HB1.out.size ?_; intro v2 w2 ho2 hg2; have HO2 := Lib.hid ho2; have HB2 := Lib.hid (below_append HB1.out hg2 HO1.out (Nat.le_refl _) HB1.out.size); clear ho2 hg2)
              | (at_builtin; refine wp_appendN w2 rfl (.tmp 43) (.tmp 46) rfl wo.heap.size _ (S.take (k) ++ [(i : Int)]) rfl HO2.out ⟨g, 0, none⟩ (d - (k)) (S.drop (k)) (by rw [hqd]; simp [Act.eval] <;> omega) (fun j hj => by rw [hqd] at hj; omega) (by simp; omega) HB2.out.size ?_; intro v3 w3 ho3 hg3; rw [HINS.out] at ho3; obtain ⟨Y3, c3, rfl, hc3, hl3, hY3⟩ := ho3.form; obtain ⟨g3, rfl, hg3a, hg3b⟩ := hY3 (by rw [ordK_len]; omega); have HO3 := Lib.hid ho3; have HB3 := Lib.hid (Below.grown HB2.out hg3 HB2.out.size (fun k hk => (HO2.out.lt k hk).1)); clear ho3 hg3))
            rw [ordK_len] at HO3 hl3
            unfold maxLen at hc3
            go_roundw
            case rel => exact ⟨i + 1, g3, c3, by omega, by go_num, by rw [ordK_len], by omega, by omega, HO3.out.mono hsz, Below.then HB.out HB3.out⟩
            case measure => simp [intOf]; omega
          go_wp2_with (first
            | (at_builtin; refine wp_appendN (wo.alloc (.cells #[] 3)) rfl (.tmp 34) (.tmp 37) rfl wo.heap.size _ [] rfl HE.out ⟨g, 0, none⟩ d (S.take (k)) (by rw [hqt]; simp [Act.eval]) HC1.out (by simp; omega) (by simp) ?_; intro v1 w1 ho1 hg1; have HO1 : Hid (Own w1 wo.heap.size v1 (S.take (k))) := ho1; have HB1 := Lib.hid (Below.grown HBE.out hg1 (by simp) (fun k hk => (HE.out.lt k hk).1)); clear ho1 hg1)
            | (at_builtin; refine wp_append1 w1 rfl (.tmp 39) (.tmp 41) rfl wo.heap.size _ (S.take (k)) (i : Int) rfl HO1.out (by simp [Act.eval]) (by omega) HB1.out.size ?_; intro v2 w2 ho2 hg2; have HO2 := Lib.hid ho2; have HB2 := Lib.hid (below_append HB1.out hg2 HO1.out (Nat.le_refl _) HB1.out.size); clear ho2 hg2)
            | (at_builtin; refine wp_appendN w2 rfl (.tmp 43) (.tmp 46) rfl wo.heap.size _ (S.take (k) ++ [(i : Int)]) rfl HO2.out ⟨g, k, none⟩ (d - (k)) (S.drop (k)) (by rw [hqd]; simp [Act.eval, hdq]) (fun j hj => by rw [Addr.add_lit, HB2.out.cell (p := ⟨g, k + j, none⟩) hgw, HOC.out (k + j) (by omega)]; simp [List.getD_eq_getElem?_getD, List.getElem?_drop]) (by simp; omega) HB2.out.size ?_; intro v3 w3 ho3 hg3; rw [HINS.out] at ho3; obtain ⟨Y3, c3, rfl, hc3, hl3, hY3⟩ := ho3.form; obtain ⟨g3, rfl, hg3a, hg3b⟩ := hY3 (by rw [ordK_len]; omega); have HO3 := Lib.hid ho3; have HB3 := Lib.hid (Below.grown HB2.out hg3 HB2.out.size (fun k hk => (HO2.out.lt k hk).1)); clear ho3 hg3))
          rw [ordK_len] at HO3 hl3
          unfold maxLen at hc3
          go_roundw
          case rel => exact ⟨i + 1, g3, c3, by omega, by go_num, by rw [ordK_len], by omega, by omega, HO3.out.mono hsz, Below.then HB.out HB3.out⟩
          case measure => simp [intOf]; omega
        · obtain ⟨k, rfl⟩ : ∃ j, k = j + 1 := ⟨k - 1, by omega⟩
          obtain ⟨p, hp, he⟩ := HAT.out k (by omega)
          obtain ⟨hoc, -⟩ := HO.out.at1 hSl (by omega)
          have zk := hoc k (by omega)
          rw [he] at zk
          have zp := HCELL.out p (by omega)
          have hbf := HBF.out p
          have HGO := Lib.hid (fun h => posR_go (bef := befK L) (x := (i : Int)) (S := S) (k := k) h)
          have HST := Lib.hid (fun h => posR_stop (bef := befK L) (x := (i : Int)) (S := S) (k := k) h)
          rw [he] at HGO HST
          have HBP := Lib.hid hbf
          clear hoc he hbf
          generalize L.getD p 0 = xp at *
          by_cases hq : xp < xi
          · have hbt : befK L (i : Int) (p : Int) = true := by rw [HBP.out]; exact decide_eq_true hq
            have HN := Lib.hid (HP.out.trans (HGO.out hbt))
            clear hbt
            go_wp2
            go_round
            case rel => exact ⟨k, by omega, by go_num, HN.out⟩
            case measure => simp [intOf]
          · have hbt : befK L (i : Int) (p : Int) = false := by rw [HBP.out]; exact decide_eq_false hq
            have HPOS : Hid (posR (befK L) (i : Int) S S.length = k + 1) := by unfold Hid; rw [hSl]; exact HP.out.trans (HST.out hbt)
            clear hbt
            have hq0 : k + 1 ≤ i := by omega
            have hqt : (S.take (k + 1)).length = k + 1 := by rw [List.length_take, hSl]; omega
            have hqd : (S.drop (k + 1)).length = i - (k + 1) := by rw [List.length_drop, hSl]
            have HINS : Hid (S.take (k + 1) ++ [(i : Int)] ++ S.drop (k + 1) = ordK L (i + 1)) := by
              unfold Hid
              rw [HSU.out]
              unfold insR
              rw [HPOS.out]; simp
            have hsz := HB.out.size
            have HE := Lib.hid (Own.lit wo wo.heap.size [] (Nat.le_refl _) (by simp))
            have bE := below_alloc1 wo (.cells #[] 3)
            have HOC := Lib.hid (fun (k : Nat) (hk : k < i) => (HO.out.at1 hSl (by omega)).1 k hk)
            have hgw := (HO.out.lt g rfl).2
            have HC1 : Hid (∀ j, j < (S.take (k + 1)).length → (wo.alloc (.cells #[] 3)).cell? ((⟨g, 0, none⟩ : Addr).add j) = some (.int .i64 ((S.take (k + 1)).getD j 0))) := fun j hj => by
              rw [hqt] at hj
              rw [Addr.add_lit, Nat.zero_add, bE.cell (p := ⟨g, j, none⟩) hgw, HOC.out j (by omega)]
              simp [List.getD_eq_getElem?_getD, List.getElem?_take, hj]
            have HBE := Lib.hid bE
            clear bE
            by_cases hdq : d = k + 1
            case pos =>
              go_wp2_with (first
                | (at_builtin; refine wp_appendN (wo.alloc (.cells #[] 3)) rfl (.tmp 34) (.tmp 37) rfl wo.heap.size _ [] rfl HE.out ⟨g, 0, none⟩ d (S.take (k + 1)) (by rw [hqt]; simp [Act.eval] <;> omega) HC1.out (by simp; omega) (by simp) ?_; intro v1 w1 ho1 hg1; have HO1 : Hid (Own w1 wo.heap.size v1 (S.take (k + 1))) := ho1; have HB1 := Lib.hid (Below.grown HBE.out hg1 (by simp) (fun k hk => (HE.out.lt k hk).1)); clear ho1 hg1)
                | (at_builtin; refine wp_append1 w1 rfl (.tmp 39) (.tmp 41) rfl wo.heap.size _ (S.take (k + 1)) (i : Int) rfl HO1.out (by simp [Act.eval]) (by omega) HB1.out.size ?_; intro v2 w2 ho2 hg2; have HO2 := Lib.hid ho2; have HB2 := Lib.hid (below_append HB1.out hg2 HO1.out (Nat.le_refl _) HB1.out.size); clear ho2 hg2)
                | (at_builtin; refine wp_appendN w2 rfl (.tmp 43) (.tmp 46) rfl wo.heap.size _ (S.take (k + 1) ++ [(i : Int)]) rfl HO2.out ⟨g, 0, none⟩ (d - (k + 1)) (S.drop (k + 1)) (by rw [hqd]; simp [Act.eval] <;> omega) (fun j hj => by rw [hqd] at hj; omega) (by simp; omega) HB2.out.size ?_; intro v3 w3 ho3 hg3; rw [HINS.out] at ho3; obtain ⟨Y3, c3, rfl, hc3, hl3, hY3⟩ := ho3.form; obtain ⟨g3, rfl, hg3a, hg3b⟩ := hY3 (by rw [ordK_len]; omega); have HO3 := Lib.hid ho3; have HB3 := Lib.hid (Below.grown HB2.out hg3 HB2.out.size (fun k hk => (HO2.out.lt k hk).1)); clear ho3 hg3))
              rw [ordK_len] at HO3 hl3
              unfold maxLen at hc3
              go_roundw
              case rel => exact ⟨i + 1, g3, c3, by omega, by go_num, by rw [ordK_len], by omega, by omega, HO3.out.mono hsz, Below.then HB.out HB3.out⟩
              case measure => simp [intOf]; omega
            go_wp2_with (first
              | (at_builtin; refine wp_appendN (wo.alloc (.cells #[] 3)) rfl (.tmp 34) (.tmp 37) rfl wo.heap.size _ [] rfl HE.out ⟨g, 0, none⟩ d (S.take (k + 1)) (by rw [hqt]; simp [Act.eval]) HC1.out (by simp; omega) (by simp) ?_; intro v1 w1 ho1 hg1; have HO1 : Hid (Own w1 wo.heap.size v1 (S.take (k + 1))) := ho1; have HB1 := Lib.hid (Below.grown HBE.out hg1 (by simp) (fun k hk => (HE.out.lt k hk).1)); clear ho1 hg1)
              | (at_builtin; refine wp_append1 w1 rfl (.tmp 39) (.tmp 41) rfl wo.heap.size _ (S.take (k + 1)) (i : Int) rfl HO1.out (by simp [Act.eval]) (by omega) HB1.out.size ?_; intro v2 w2 ho2 hg2; have HO2 := Lib.hid ho2; have HB2 := Lib.hid (below_append HB1.out hg2 HO1.out (Nat.le_refl _) HB1.out.size); clear ho2 hg2)
              | (at_builtin; refine wp_appendN w2 rfl (.tmp 43) (.tmp 46) rfl wo.heap.size _ (S.take (k + 1) ++ [(i : Int)]) rfl HO2.out ⟨g, k + 1, none⟩ (d - (k + 1)) (S.drop (k + 1)) (by rw [hqd]; simp [Act.eval, hdq]) (fun j hj => by rw [Addr.add_lit, HB2.out.cell (p := ⟨g, k + 1 + j, none⟩) hgw, HOC.out (k + 1 + j) (by omega)]; simp [List.getD_eq_getElem?_getD, List.getElem?_drop]) (by simp; omega) HB2.out.size ?_; intro v3 w3 ho3 hg3; rw [HINS.out] at ho3; obtain ⟨Y3, c3, rfl, hc3, hl3, hY3⟩ := ho3.form; obtain ⟨g3, rfl, hg3a, hg3b⟩ := hY3 (by rw [ordK_len]; omega); have HO3 := Lib.hid ho3; have HB3 := Lib.hid (Below.grown HB2.out hg3 HB2.out.size (fun k hk => (HO2.out.lt k hk).1)); clear ho3 hg3))
            rw [ordK_len] at HO3 hl3
            unfold maxLen at hc3
            go_roundw
            case rel => exact ⟨i + 1, g3, c3, by omega, by go_num, by rw [ordK_len], by omega, by omega, HO3.out.mono hsz, Below.then HB.out HB3.out⟩
            case measure => simp [intOf]; omega
    · obtain rfl : n = i := by omega
      go_wp2
      go_ret
      exact ⟨_, rfl, HO.out, HB.out⟩
end Go.Proofs.Ytdmneccfbfdloaa
