/- FnExactTableOf: spec.TableOf. -/
import Derived.Test.YtoblhnfnjagajaaTab2
import Derived.Test.YtoblhnfnjagajaaOrd
import Derived.Test.YtoblhnfnjagajaaApp
import Derived.Maps.AppendAt
namespace Go.Proofs.Ytoblhnfnjagajaa
open Go.RowKit Go.Sort
set_option maxRecDepth 100000
theorem posR_congr {f g : Int → Int → Bool} {x : Int} {S : List Int} (h : ∀ y ∈ S, f x y = g x y) : ∀ k, k ≤ S.length → posR f x S k = posR g x S k := by
  intro k
  induction k with
  | zero => intro _; rfl
  | succ k ih =>
    intro hk
    have e := h (S.getD k 0) (getD_memI (by omega))
    rcases q : f x (S.getD k 0) with _ | _
    · rw [posR_stop q, posR_stop (by rw [← e]; exact q)]
    · rw [posR_go q, posR_go (by rw [← e]; exact q)]; exact ih (by omega)
theorem sortR_congr {f g : Int → Int → Bool} {L : List Int} (h : ∀ x ∈ L, ∀ y ∈ L, f x y = g x y) : sortR f L = sortR g L := by
  have : ∀ i, i ≤ L.length → sortR f (L.take i) = sortR g (L.take i) := by
    intro i
    induction i with
    | zero => intro _; simp [sortR]
    | succ i ih =>
      intro hi
      rw [sortR_succ f L (by omega), sortR_succ g L (by omega), ih (by omega)]
      unfold insR
      rw [posR_congr (fun y hy => h _ (getD_memI (by omega)) _ (mem_sortR (by omega) hy)) _ (Nat.le_refl _)]
  have e := this L.length (Nat.le_refl _)
  rwa [List.take_length] at e
def keyK (rs : List R4) (c : Nat) : Int := (ptsK rs c * 20000 + madeN rs c - agN rs c + 10000) * 10000 + madeN rs c
def keysL (rs : List R4) (n : Nat) : List Int := (List.range n).map (keyK rs)
theorem keysL_len (rs : List R4) (n : Nat) : (keysL rs n).length = n := by simp [keysL]
theorem keysL_at {rs : List R4} {n c : Nat} (h : c < n) : (keysL rs n).getD c 0 = keyK rs c := by simp [keysL, h]
theorem keysL_succ (rs : List R4) (n : Nat) : keysL rs (n + 1) = keysL rs n ++ [keyK rs n] := by unfold keysL; rw [List.range_succ, List.map_append]; rfl
theorem orI3 (a b c : Int) : orI [a, b, c] = if a = 0 then (if b = 0 then c else b) else a := by
  unfold orI
  by_cases ha : a = 0
  · by_cases hb : b = 0
    · by_cases hc : c = 0 <;> simp [ha, hb, hc]
    · simp [ha, hb]
  · simp [ha]
theorem club_bds {s : Int} {rs : List R4} (hv : leagueB s rs = true) (a : Nat) : (0 ≤ ptsK rs a ∧ ptsK rs a ≤ 180) ∧ (0 ≤ madeN rs a ∧ madeN rs a ≤ 5940) ∧ (0 ≤ agN rs a ∧ agN rs a ≤ 5940) := by
  have h60 := (leagueB_true.1 hv).2.1
  have M := goals_bd (c := (a : Int)) (league_goals hv) rs.length (Nat.le_refl _)
  have B := ptsK_bd rs (a : Nat) rs.length (Nat.le_refl _)
  rw [List.take_length] at M B
  omega
theorem tab_key {s : Int} {rs : List R4} (hv : leagueB s rs = true) {n a b : Nat} (ha : a < n) (hb : b < n) : decide (tabC rs n a b < 0) = decide (keyK rs b < keyK rs a) := by
  have A := club_bds hv a
  have B := club_bds hv b
  rw [decide_eq_decide]
  unfold tabC keyK
  rw [orI3, Int.toNat_natCast, Int.toNat_natCast, ptsLK_getD rs n b hb, ptsLK_getD rs n a ha]
  generalize ptsK rs (a : Nat) = pa at *
  generalize ptsK rs (b : Nat) = pb at *
  generalize madeN rs (a : Nat) = ma at *
  generalize madeN rs (b : Nat) = mb at *
  generalize agN rs (a : Nat) = ga at *
  generalize agN rs (b : Nat) = gb at *
  obtain ⟨⟨_, _⟩, ⟨_, _⟩, _, _⟩ := A
  obtain ⟨⟨_, _⟩, ⟨_, _⟩, _, _⟩ := B
  by_cases h1 : pb - pa = 0
  · rw [if_pos h1]
    by_cases h2 : mb - gb - (ma - ga) = 0
    · rw [if_pos h2]; omega
    · rw [if_neg h2]; omega
  · rw [if_neg h1]; omega
theorem tabL_eq {n : Nat} {rs : List R4} (hv : leagueB (n : Int) rs = true) : tabL (n : Int) rs = ordK (keysL rs n) n := by
  unfold tabL ordK
  rw [if_pos hv]
  refine sortR_congr fun x hx y hy => ?_
  obtain ⟨a, ha, rfl⟩ := idxL_mem hx
  obtain ⟨b, hb, rfl⟩ := idxL_mem hy
  rw [Int.toNat_natCast] at ha hb
  unfold befK
  rw [Int.toNat_natCast, Int.toNat_natCast, Int.toNat_natCast, keysL_at ha, keysL_at hb]
  exact tab_key hv ha hb
theorem wp_append1at {ops : Array Oper} {rest : List Oper} {o : Oper} {a : Act} {Q : Exit → Act → World → Prop} (w : World) (hgd : o.guard = none) (s x : Operand)
    (ho : o.op = .call { callee := .builtin .append, args := #[s, x], argTypes := #[45, 45] })
    (base : Nat) (v : Value) (xs : List Int) (y : Int) (hs : a.eval s = v) (hown : Own w base v xs) (hx : a.eval x = .slice (some ⟨w.heap.size, 0, none⟩) 1 1)
    (hlen : xs.length ≤ 1099511627776) (hbase : base ≤ w.heap.size)
    (h : ∀ v' w', Own w' base v' (xs ++ [y]) → w.grownBy w' v.ownBlock → (v'.ownBlock = v.ownBlock ∨ v'.ownBlock = some (w.heap.size + 1)) → wpList Try.prog ops Q rest (a.put o.dst v') w') :
    wpList Try.prog ops Q (o :: rest) a (w.alloc (.cells #[.int .i64 y] 3)) := by
  obtain ⟨i0, hi, hz0, hz1, hz2⟩ := info_parts i64_info
  have hown' : (w.alloc (.cells #[.int .i64 y] 3)).ownsRow base 3 1 v xs.length (xs.map (Value.int .i64)) := World.ownsRow.alloc hown _
  refine wpList_append_own_at _ hgd s x 45 ho base 3 i0 (.int .i64 0) 1 8 Try.underlying45 hi hz0 hz1 hz2 rfl (by decide) v xs.length (xs.map (Value.int .i64)) hs hown' ⟨w.heap.size, 0, none⟩ 1 1 [.int .i64 y] hx rfl ?_ ?_ ?_ ?_ ?_ ?_
  · exact cell_one_new _ _ _
  · intro u hu; simp at hu; subst hu; rfl
  · unfold maxLen; omega
  · omega
  · simp; omega
  · intro v' w' h1 h2 _ h4
    refine h v' w' ?_ (grown_of_alloc h2) (by simpa using h4)
    unfold Own
    rw [List.length_append, List.map_append]
    exact h1
set_option maxHeartbeats 4000000 in
theorem specTable (s : Int) (sl : Value) (rs : List R4) (w : World) (h : RdR w sl rs) :
    Calls Try.prog 30 #[.agg #[.int .i64 s, sl]] w fun e w' => ∃ v', e = .returned v' ∧ Own w' w.heap.size v' (tabL s rs) ∧ Below w.heap.size w w' := by
  have HR := Lib.hid h
  obtain ⟨A, c, rfl, -, -, -⟩ := h
  rcases q0 : leagueB s rs with _ | _
  case false =>
    go_enter Try.func30, Try.ntmps30
    go_wp2_with fail
    have b0 := below_alloc1 w (.cells #[.int .i64 s, .slice A rs.length c] 28)
    have x0 := TBox.new w s (.slice A rs.length c) 28
    generalize w.alloc (.cells #[.int .i64 s, .slice A rs.length c] 28) = w0 at *
    have HX0 := Lib.hid x0
    have HB0 := Lib.hid b0
    clear x0 b0
    have y0_0 := HX0.out.1
    have y1_0 := HX0.out.2
    go_wp2_with fail
    refine (specLeagueOk s _ rs _ (HR.out.below HB0.out)).mono ?_
    rintro e w1 ⟨rfl, hb⟩
    have HX1 := Lib.hid (HX0.out.below hb)
    have HB1 := Lib.hid (Below.then HB0.out hb)
    clear hb HX0 HB0 y0_0 y1_0
    have y0_1 := HX1.out.1
    have y1_1 := HX1.out.2
    rw [q0]
    go_wp2
    go_ret
    exact ⟨_, rfl, by simp only [tabL, q0]; exact Own.nil_ _ _, HB1.out⟩
  go_enter Try.func30, Try.ntmps30
  go_wp2_with fail
  have b0 := below_alloc1 w (.cells #[.int .i64 s, .slice A rs.length c] 28)
  have x0 := TBox.new w s (.slice A rs.length c) 28
  generalize w.alloc (.cells #[.int .i64 s, .slice A rs.length c] 28) = w0 at *
  have HX0 := Lib.hid x0
  have HB0 := Lib.hid b0
  clear x0 b0
  have y0_0 := HX0.out.1
  have y1_0 := HX0.out.2
  go_wp2_with fail
  refine (specLeagueOk s _ rs _ (HR.out.below HB0.out)).mono ?_
  rintro e w1 ⟨rfl, hb⟩
  have HX1 := Lib.hid (HX0.out.below hb)
  have HB1 := Lib.hid (Below.then HB0.out hb)
  clear hb HX0 HB0 y0_0 y1_0
  have y0_1 := HX1.out.1
  have y1_1 := HX1.out.2
  rw [q0]
  have hs := (leagueB_true.1 q0).1
  obtain ⟨n, rfl⟩ := Int.eq_ofNat_of_zero_le (show 0 ≤ s by omega)
  have hF : Hid (tabL (n : Int) rs = ordK (keysL rs n) n) := tabL_eq q0
  have HKc := Lib.hid (fun c : Nat => club_bds q0 c)
  have HSZ := Lib.hid HB1.out.size
  have hk0 := Own.lit w1 w1.heap.size [] (Nat.le_refl _) (by simp)
  have bE := below_alloc1 w1 (.cells #[] 3)
  have HX2 := Lib.hid (HX1.out.below bE)
  have HB2 := Lib.hid bE
  have HK0 := Lib.hid hk0
  have hy0 := HX2.out.1
  have hy1 := HX2.out.2
  clear bE hk0 y0_1 y1_1
  go_wp2_with fail
  refine (l12All_any n _ rs _ (HR.out.below (Below.then HB1.out HB2.out)) q0).mono ?_
  rintro e w3 ⟨v, rfl, ho, hb⟩
  rw [show ((n : Int)).toNat = n from rfl] at ho
  obtain ⟨gp, cp, rfl, hgp, hcp, hncp, hpc, -⟩ := ho.at_ (ptsLK_len rs n) (by omega)
  have HK3 := Lib.hid (HK0.out.below hb)
  have HB3 := Lib.hid (Below.then HB2.out hb)
  have HG := Lib.hid (ho.lt gp rfl)
  have HO3 := Lib.hid (ho.mono (show w1.heap.size ≤ _ by simp))
  have HNE : Hid (Value.ownBlock (.slice (some ⟨w1.heap.size, 0, none⟩) ([] : List Int).length ([] : List Int).length) ≠ some gp) := by
    have := HG.out.1
    unfold Hid Value.ownBlock
    simp at this ⊢; omega
  unfold maxLen at hcp
  clear hpc ho hb hy0 hy1
  go_wp2
  go_loopw [3, 15] (fun o i wr => ∃ k : Nat, k ≤ n ∧ i = .int .i64 k ∧ Hid (Own wr w1.heap.size o (keysL rs k)) ∧ Hid (o.ownBlock ≠ some gp) ∧ Hid (Own wr w1.heap.size (.slice (some ⟨gp, 0, none⟩) n cp) (ptsLK rs n)) ∧ Hid (Below w1.heap.size w1 wr)) (fun _ i _ => n - (intOf i).toNat)
  case atStart => exact ⟨0, by omega, rfl, HK3.out, HNE.out, HO3.out, HB3.out⟩
  case round =>
    obtain ⟨wo, rfl⟩ : ∃ x, x = wr := ⟨_, rfl⟩
    obtain ⟨k, hk, rfl, HK, HN, HO, HB⟩ := hrel
    by_cases hlt : k < n
    · have zk := (HO.out.at1 (ptsLK_len rs n) (by omega)).1 k hlt
      rw [ptsLK_getD rs n k hlt] at zk
      have HX := Lib.hid (HX1.out.below HB.out)
      have hy0 := HX.out.1
      have hy1 := HX.out.2
      have HKE : Hid (keysL rs (k + 1) = keysL rs k ++ [(ptsK rs k * 20000 + madeN rs k - agN rs k + 10000) * 10000 + madeN rs k]) := keysL_succ rs k
      have bds := HKc.out k
      have hbs := HB.out.size
      generalize ptsK rs (k : Nat) = p at *
      go_wp2_with fail
      refine (l12Goals_any n _ rs (k : Nat) _ (HR.out.below (Below.then HB1.out HB.out)) q0).mono ?_
      rintro e w4 ⟨rfl, hb4⟩
      have HB4 := Lib.hid (Below.then HB.out (hb4.mono (Nat.le_refl _)))
      have HK4 := Lib.hid (HK.out.below hb4)
      have HO4 := Lib.hid (HO.out.below hb4)
      have hs4 := HB4.out.size
      have HL4 := Lib.hid (HO4.out.lt gp rfl).2
      clear hb4 hy0 hy1 zk
      generalize madeN rs (k : Nat) = m at *
      generalize agN rs (k : Nat) = g at *
      obtain ⟨⟨_, _⟩, ⟨_, _⟩, _, _⟩ := bds
      go_wp2_with (at_builtin; refine wp_append1at w4 rfl (.tmp 26) (.tmp 37) rfl w1.heap.size _ (keysL rs k) ((p * 20000 + m - g + 10000) * 10000 + m) rfl HK4.out (by simp [Act.eval]) (by rw [keysL_len]; omega) hs4 ?_; intro v5 w5 ho5 hg5 hat5; have HK5 := Lib.hid ho5; have HO5 := Lib.hid (HO4.out.kept hg5 (.inr (fun h => HN.out h.symm))); have HB5 := Lib.hid (below_append HB4.out hg5 HK4.out (Nat.le_refl _) hs4); have HN5 : Hid (v5.ownBlock ≠ some gp) := (by unfold Hid; rcases hat5 with h | h <;> rw [h]; exact HN.out; intro h2; injection h2 with h2; have := HL4.out; omega); clear ho5 hg5 hat5)
      rw [← HKE.out] at HK5
      go_roundw
      case rel => exact ⟨k + 1, by omega, by go_num, HK5.out, HN5.out, HO5.out, HB5.out⟩
      case measure => simp [intOf]; omega
    · obtain rfl : n = k := by omega
      go_wp2_with fail
      refine (l09Order_any _ (keysL rs n) _ HK.out.rd (by rw [keysL_len]; omega)).mono ?_
      rintro e w4 ⟨v4, rfl, ho4, hb4⟩
      rw [keysL_len, ← hF.out] at ho4
      have HO4 := Lib.hid ho4
      have HB4 := Lib.hid (Below.then HB.out hb4)
      have hs5 := HB.out.size
      clear ho4 hb4
      go_wp2
      go_ret
      exact ⟨_, rfl, HO4.out.mono (by have := HSZ.out; omega), Below.then HB1.out HB4.out⟩
end Go.Proofs.Ytoblhnfnjagajaa
