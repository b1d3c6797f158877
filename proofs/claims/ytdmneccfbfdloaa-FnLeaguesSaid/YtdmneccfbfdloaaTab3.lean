/- FnExactTableOf: spec.TableOf. -/
import Derived.Test.YtdmneccfbfdloaaTab2
import Derived.Test.YtdmneccfbfdloaaOrd
import Derived.Test.YtdmneccfbfdloaaApp
import Derived.Maps.AppendAt
namespace Go.Proofs.Ytdmneccfbfdloaa
open Go.RowKit Go.Sort
set_option maxRecDepth 100000
theorem posR_congr {f g : Int → Int → Bool} {x : Int} {S : List Int} (h : ∀ y ∈ S, f x y = g x y) : ∀ k, k ≤ S.length → posR f x S k = posR g x S k := by
  intro k
  induction k with
  | zero => intro _; rfl
  | succ k ih =>
    intro hk
    have e := h (S.getD k 0) (getD_memI (by omega))
    rcases q : f x (S.getD k 0) with _ | _
    · rw [posR_stop q, posR_stop (by rw [← e]; exact q)]
    · rw [posR_go q, posR_go (by rw [← e]; exact q)]; exact ih (by omega)
theorem sortR_congr {f g : Int → Int → Bool} {L : List Int} (h : ∀ x ∈ L, ∀ y ∈ L, f x y = g x y) : sortR f L = sortR g L := by
  have : ∀ i, i ≤ L.length → sortR f (L.take i) = sortR g (L.take i) := by
    intro i
    induction i with
    | zero => intro _; simp [sortR]
    | succ i ih =>
      intro hi
      rw [sortR_succ f L (by omega), sortR_succ g L (by omega), ih (by omega)]
      unfold insR
      rw [posR_congr (fun y hy => h _ (getD_memI (by omega)) _ (mem_sortR (by omega) hy)) _ (Nat.le_refl _)]
  have e := this L.length (Nat.le_refl _)
  rwa [List.take_length] at e
def keyK (rs : List R4) (c : Nat) : Int := (ptsK rs c * 20000 + madeN rs c - agN rs c + 10000) * 10000 + madeN rs c
def keysL (rs : List R4) (n : Nat) : List Int := (List.range n).map (keyK rs)
theorem keysL_len (rs : List R4) (n : Nat) : (keysL rs n).length = n := by simp [keysL]
theorem keysL_at {rs : List R4} {n c : Nat} (h : c < n) : (keysL rs n).getD c 0 = keyK rs c := by simp [keysL, h]
theorem keysL_succ (rs : List R4) (n : Nat) : keysL rs (n + 1) = keysL rs n ++ [keyK rs n] := by unfold keysL; rw [List.range_succ, List.map_append]; rfl
theorem orI3 (a b c : Int) : orI [a, b, c] = if a = 0 then (if b = 0 then c else b) else a := by
  unfold orI
  by_cases ha : a = 0
  · by_cases hb : b = 0
    · by_cases hc : c = 0 <;> simp [ha, hb, hc]
    · simp [ha, hb]
  · simp [ha]
theorem club_bds {s : Int} {rs : List R4} (hv : leagueB s rs = true) (a : Nat) : (0 ≤ ptsK rs a ∧ ptsK rs a ≤ 180) ∧ (0 ≤ madeN rs a ∧ madeN rs a ≤ 5940) ∧ (0 ≤ agN rs a ∧ agN rs a ≤ 5940) := by
  have h60 := (leagueB_true.1 hv).2.1
  have M := goals_bd (c := (a : Int)) (league_goals hv) rs.length (Nat.le_refl _)
  have B := ptsK_bd rs (a : Nat) rs.length (Nat.le_refl _)
  rw [List.take_length] at M B
  omega
theorem tab_key {s : Int} {rs : List R4} (hv : leagueB s rs = true) {n a b : Nat} (ha : a < n) (hb : b < n) : decide (tabC rs n a b < 0) = decide (keyK rs b < keyK rs a) := by
  have A := club_bds hv a
  have B := club_bds hv b
  rw [decide_eq_decide]
  unfold tabC keyK
  rw [orI3, Int.toNat_natCast, Int.toNat_natCast, ptsLK_getD rs n b hb, ptsLK_getD rs n a ha]
  generalize ptsK rs (a : Nat) = pa at *
  generalize ptsK rs (b : Nat) = pb at *
  generalize madeN rs (a : Nat) = ma at *
  generalize madeN rs (b : Nat) = mb at *
  generalize agN rs (a : Nat) = ga at *
  generalize agN rs (b : Nat) = gb at *
  obtain ⟨⟨_, _⟩, ⟨_, _⟩, _, _⟩ := A
  obtain ⟨⟨_, _⟩, ⟨_, _⟩, _, _⟩ := B
  by_cases h1 : pb - pa = 0
  · rw [if_pos h1]
    by_cases h2 : mb - gb - (ma - ga) = 0
    · rw [if_pos h2]; omega
    · rw [if_neg h2]; omega
  · rw [if_neg h1]; omega
theorem tabL_eq {n : Nat} {rs : List R4} (hv : leagueB (n : Int) rs = true) : tabL (n : Int) rs = ordK (keysL rs n) n := by
  unfold tabL ordK
  rw [if_pos hv]
  refine sortR_congr fun x hx y hy => ?_
  obtain ⟨a, ha, rfl⟩ := idxL_mem hx
  obtain ⟨b, hb, rfl⟩ := idxL_mem hy
  rw [Int.toNat_natCast] at ha hb
  unfold befK
  rw [Int.toNat_natCast, Int.toNat_natCast, Int.toNat_natCast, keysL_at ha, keysL_at hb]
  exact tab_key hv ha hb
theorem wp_append1at {ops : Array Oper} {rest : List Oper} {o : Oper} {a : Act} {Q : Exit → Act → World → Prop} (w : World) (hgd : o.guard = none) (s x : Operand)
    (ho : o.op = .call { callee := .builtin .append, args := #[s, x], argTypes := #[22, 22] })
    (base : Nat) (v : Value) (xs : List Int) (y : Int) (hs : a.eval s = v) (hown : Own w base v xs) (hx : a.eval x = .slice (some ⟨w.heap.size, 0, none⟩) 1 1)
    (hlen : xs.length ≤ 1099511627776) (hbase : base ≤ w.heap.size)
    (h : ∀ v' w', Own w' base v' (xs ++ [y]) → w.grownBy w' v.ownBlock → (v'.ownBlock = v.ownBlock ∨ v'.ownBlock = some (w.heap.size + 1)) → wpList Try.prog ops Q rest (a.put o.dst v') w') :
    wpList Try.prog ops Q (o :: rest) a (w.alloc (.cells #[.int .i64 y] 3)) := by
  obtain ⟨i0, hi, hz0, hz1, hz2⟩ := info_parts i64_info
  have hown' : (w.alloc (.cells #[.int .i64 y] 3)).ownsRow base 3 1 v xs.length (xs.map (Value.int .i64)) := World.ownsRow.alloc hown _
  refine wpList_append_own_at _ hgd s x 22 ho base 3 i0 (.int .i64 0) 1 8 Try.underlying22 hi hz0 hz1 hz2 rfl (by decide) v xs.length (xs.map (Value.int .i64)) hs hown' ⟨w.heap.size, 0, none⟩ 1 1 [.int .i64 y] hx rfl ?_ ?_ ?_ ?_ ?_ ?_
  · exact cell_one_new _ _ _
  · intro u hu; simp at hu; subst hu; rfl
  · unfold maxLen; omega
  · omega
  · simp; omega
  · intro v' w' h1 h2 _ h4
    refine h v' w' ?_ (grown_of_alloc h2) (by simpa using h4)
    unfold Own
    rw [List.length_append, List.map_append]
    exact h1
end Go.Proofs.Ytdmneccfbfdloaa
