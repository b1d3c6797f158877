/- Texts put together: OrB, Met, Goals, Cmp, Rec, Pts, OrA, OrC. -/
import Derived.Test.YthoodjjjklbggaaGreatDoorMTriangles14
import Derived.Test.YthoodjjjklbggaaGreatDoorMTriangles01
import Derived.OwnWalk
import Derived.Test.YthoodjjjklbggaaGreatDoorMTriangles03
import Derived.Test.YthoodjjjklbggaaGreatDoorMTriangles02
import Derived.Deep.RegionHeld3
import Derived.Deep.DeepCutAuto
import Derived.Deep.OwnRows
import Derived.Test.YthoodjjjklbggaaGreatDoorMTriangles10
namespace Go.Proofs.YthoodjjjklbggaaGreatDoor
open Go.RowKit Go.Sort
set_option maxRecDepth 100000
/-- a beats b and stands behind -/
def bgP (r : Nat → Nat → Bool) (l : List Nat) (a b : Nat) : Bool := r a b && decide (l.idxOf b < l.idxOf a)
def bgIn (r : Nat → Nat → Bool) (l : List Nat) (a m : Nat) : List (List Int) := ((List.range m).filter fun b => bgP r l a b).map fun (b : Nat) => [(a : Int), (b : Int)]
def bgTo (r : Nat → Nat → Bool) (n : Nat) (l : List Nat) (k : Nat) : List (List Int) := (List.range k).flatMap fun a => bgIn r l a n
def bgN (r : Nat → Nat → Bool) (n : Nat) (l : List Nat) : List (List Int) := bgTo r n l n
theorem bgIn_succ (r : Nat → Nat → Bool) (l : List Nat) (a m : Nat) : bgIn r l a (m + 1) = bgIn r l a m ++ if bgP r l a m then [[(a : Int), (m : Int)]] else [] := by
  unfold bgIn
  rw [List.range_succ, List.filter_append, List.map_append]
  congr 1
  rcases h : bgP r l a m with _ | _ <;> simp [h]
theorem bgTo_succ (r : Nat → Nat → Bool) (n : Nat) (l : List Nat) (k : Nat) : bgTo r n l (k + 1) = bgTo r n l k ++ bgIn r l k n := by
  unfold bgTo
  rw [List.range_succ, List.flatMap_append]
  simp
theorem bgIn_len (r : Nat → Nat → Bool) (l : List Nat) (a m : Nat) : (bgIn r l a m).length ≤ m := by
  unfold bgIn
  rw [List.length_map]
  exact Nat.le_trans (List.length_filter_le ..) (by rw [List.length_range]; exact Nat.le_refl _)
theorem bgTo_len (r : Nat → Nat → Bool) (n : Nat) (l : List Nat) (k : Nat) : (bgTo r n l k).length ≤ n * k := by
  induction k with
  | zero => simp [bgTo]
  | succ k ih =>
    rw [bgTo_succ, List.length_append]
    have := bgIn_len r l k n
    rw [Nat.mul_succ]
    omega
theorem nI_mem {l : List Nat} {a : Nat} : (a : Int) ∈ nI l ↔ a ∈ l := by
  simp only [nI, List.mem_map]
  constructor
  · rintro ⟨b, hb, e⟩
    have : b = a := by omega
    subst this; exact hb
  · intro h; exact ⟨a, h, rfl⟩
theorem idx_ne {α : Type} [DecidableEq α] {b a : α} {l : List α} (h : ¬ b = a) : (b :: l).idxOf a = l.idxOf a + 1 := by
  rw [List.idxOf_cons, (beq_eq_false_iff_ne).2 h]
  rfl
theorem idx_nI {l : List Nat} {a : Nat} : (nI l).idxOf (a : Int) = l.idxOf a := by
  induction l with
  | nil => rfl
  | cons b l ih =>
    simp only [nI, List.map_cons] at ih ⊢
    by_cases e : b = a
    · subst e; rw [List.idxOf_cons_self, List.idxOf_cons_self]
    · have : ¬ ((b : Int) = (a : Int)) := by omega
      rw [idx_ne this, idx_ne e, ih]
theorem indexI_nI {l : List Nat} {a : Nat} (h : a ∈ l) : indexI (nI l) a = (l.idxOf a : Nat) := by
  unfold indexI
  rw [if_pos (nI_mem.2 h), idx_nI]
theorem ord_all {n : Nat} {l : List Nat} (hl : l ∈ ordL n) {a : Nat} (ha : a < n) : a ∈ l := (ord_perm hl).mem_iff.2 (List.mem_range.2 ha)
/-- their number -/
theorem countP_two {l : List Nat} (p : Nat → Nat → Bool) : (l.flatMap fun a => (l.filter fun b => p a b).map fun (b : Nat) => [(a : Int), (b : Int)]).length = (l.map fun a => l.countP fun b => p a b).sum := by
  rw [List.length_flatMap]
  congr 1
  refine List.map_congr_left fun a _ => ?_
  rw [List.length_map, List.countP_eq_length_filter]
theorem sum_split (p q : Nat → Nat) : ∀ l : List Nat, (l.map fun a => p a + q a).sum = (l.map p).sum + (l.map q).sum := by
  intro l
  induction l with
  | nil => rfl
  | cons a l ih => simp only [List.map_cons, List.sum_cons, ih]; omega
theorem sum_bool (p : Nat → Bool) : ∀ l : List Nat, (l.map fun a => if p a = true then 1 else 0).sum = l.countP p := by
  intro l
  induction l with
  | nil => rfl
  | cons a l ih =>
    rw [List.map_cons, List.sum_cons, ih, List.countP_cons]
    omega
theorem rev_pairs (r : Nat → Nat → Bool) : ∀ {l : List Nat}, l.Nodup → (l.map fun a => l.countP fun b => r a b && decide (l.idxOf b < l.idxOf a)).sum = revN r l := by
  intro l
  induction l with
  | nil => intro _; rfl
  | cons x l ih =>
    intro hn
    rw [List.nodup_cons] at hn
    rw [List.map_cons, List.sum_cons, revN, ← ih hn.2]
    have h0 : ((x :: l).countP fun b => r x b && decide ((x :: l).idxOf b < (x :: l).idxOf x)) = 0 := by
      rw [List.countP_eq_zero]
      intro b _
      rw [List.idxOf_cons_self]; simp
    rw [h0, Nat.zero_add, ← sum_bool, ← sum_split]
    congr 1
    refine List.map_congr_left fun a ha => ?_
    have hax : ¬ x = a := fun e => by subst e; exact hn.1 ha
    rw [List.countP_cons]
    have e1 : (x :: l).idxOf a = l.idxOf a + 1 := idx_ne hax
    have e2 : (r a x && decide ((x :: l).idxOf x < (x :: l).idxOf a)) = r a x := by
      rw [List.idxOf_cons_self, e1]; simp
    have e3 : (l.countP fun b => r a b && decide ((x :: l).idxOf b < (x :: l).idxOf a)) = l.countP fun b => r a b && decide (l.idxOf b < l.idxOf a) := by
      refine List.countP_congr fun b hb => ?_
      have hbx : ¬ x = b := fun e => by subst e; exact hn.1 hb
      have e4 : (x :: l).idxOf b = l.idxOf b + 1 := idx_ne hbx
      rw [e1, e4]
      simp
    rw [e2, e3]
    omega
theorem bgN_len {r : Nat → Nat → Bool} {n : Nat} {l : List Nat} (hl : l ∈ ordL n) : (bgN r n l).length = revN r l := by
  have hp := ord_perm hl
  unfold bgN bgTo bgIn
  rw [countP_two (fun a b => bgP r l a b), ← rev_pairs r (mem_ordL.1 hl).2.2]
  have e : (fun a => (List.range n).countP fun b => bgP r l a b) = fun a => l.countP fun b => r a b && decide (l.idxOf b < l.idxOf a) := by
    funext a
    exact (hp.countP_eq _).symm
  rw [e]
  exact ((hp.map _).sum_nat).symm
theorem bgN_mem {r : Nat → Nat → Bool} {n : Nat} {l : List Nat} {x : List Int} : x ∈ bgN r n l ↔ ∃ a b : Nat, a < n ∧ b < n ∧ bgP r l a b = true ∧ x = [(a : Int), (b : Int)] := by
  unfold bgN bgTo bgIn
  simp only [List.mem_flatMap, List.mem_range, List.mem_map, List.mem_filter]
  constructor
  · rintro ⟨a, ha, b, ⟨hb, hp⟩, rfl⟩; exact ⟨a, b, ha, hb, hp, rfl⟩
  · rintro ⟨a, b, ha, hb, hp, rfl⟩; exact ⟨a, ha, b, ⟨hb, hp⟩, rfl⟩
variable {n : Nat} {sl ov : Value} {xs : List Int} {w : World} {l : List Nat}
end Go.Proofs.YthoodjjjklbggaaGreatDoor

namespace Go.Proofs.YthoodjjjklbggaaGreatDoor
open Go.RowKit Go.Sort

def metR (a b : Int) (r : R4) : Bool := (r.1 == a && r.2.1 == b) || (r.1 == b && r.2.1 == a)
def metN (rs : List R4) (a b : Int) : Nat := (rs.filter (metR a b)).length
theorem metN_le (rs : List R4) (a b : Int) (k : Nat) : metN (rs.take k) a b ≤ k := by
  unfold metN
  refine Nat.le_trans (List.length_filter_le _ _) ?_
  rw [List.length_take]; omega
theorem take_snocR {rs : List R4} {k : Nat} (hk : k < rs.length) : rs.take (k + 1) = rs.take k ++ [r4At rs k] := by
  rw [List.take_succ_eq_append_getElem hk]
  simp [r4At, hk]
theorem metN_yes {rs : List R4} {k : Nat} {a b : Int} (hk : k < rs.length) (h : metR a b (r4At rs k) = true) : metN (rs.take (k + 1)) a b = metN (rs.take k) a b + 1 := by
  rw [take_snocR hk]; simp [metN, List.filter_append, h]
theorem metN_no {rs : List R4} {k : Nat} {a b : Int} (hk : k < rs.length) (h : metR a b (r4At rs k) = false) : metN (rs.take (k + 1)) a b = metN (rs.take k) a b := by
  rw [take_snocR hk]; simp [metN, List.filter_append, h]

def metI (s : Int) (rs : List R4) (a b : Int) : Int := if leagueB s rs = true ∧ inB a 0 (s - 1) = true ∧ inB b 0 (s - 1) = true ∧ ¬ a = b then metN rs a b else -1
theorem metI_no {s : Int} {rs : List R4} {a b : Int} (h : ¬ (leagueB s rs = true ∧ inB a 0 (s - 1) = true ∧ inB b 0 (s - 1) = true ∧ ¬ a = b)) : metI s rs a b = -1 := by unfold metI; rw [if_neg h]
theorem metI_yes {s : Int} {rs : List R4} {a b : Int} (h : leagueB s rs = true ∧ inB a 0 (s - 1) = true ∧ inB b 0 (s - 1) = true ∧ ¬ a = b) : metI s rs a b = metN rs a b := by unfold metI; rw [if_pos h]
end Go.Proofs.YthoodjjjklbggaaGreatDoor

namespace Go.Proofs.YthoodjjjklbggaaGreatDoor
open Go.RowKit Go.Sort

/-- the goals of a club that plays in a result, and those of the other one -/
def gf1 (c : Int) (r : R4) : Int := if r.1 = c then r.2.2.1 else r.2.2.2
def gf2 (c : Int) (r : R4) : Int := if r.1 = c then r.2.2.2 else r.2.2.1
def plays (c : Int) (r : R4) : Bool := r.1 == c || r.2.1 == c
def madeN (rs : List R4) (c : Int) : Int := ((rs.filter (plays c)).map (gf1 c)).sum
def agN (rs : List R4) (c : Int) : Int := ((rs.filter (plays c)).map (gf2 c)).sum
theorem goals_yes {rs : List R4} {k : Nat} {c : Int} (hk : k < rs.length) (h : plays c (r4At rs k) = true) : madeN (rs.take (k + 1)) c = madeN (rs.take k) c + gf1 c (r4At rs k) ∧ agN (rs.take (k + 1)) c = agN (rs.take k) c + gf2 c (r4At rs k) := by
  rw [take_snocR hk]; simp [madeN, agN, List.filter_append, h]
theorem goals_no {rs : List R4} {k : Nat} {c : Int} (hk : k < rs.length) (h : plays c (r4At rs k) = false) : madeN (rs.take (k + 1)) c = madeN (rs.take k) c ∧ agN (rs.take (k + 1)) c = agN (rs.take k) c := by
  rw [take_snocR hk]; simp [madeN, agN, List.filter_append, h]
theorem r4_mem {rs : List R4} {k : Nat} (hk : k < rs.length) : r4At rs k ∈ rs := by
  rw [show r4At rs k = rs[k] by simp [r4At, hk]]; exact List.getElem_mem hk
theorem goals_bd {rs : List R4} {c : Int} (hv : ∀ r ∈ rs, (0 ≤ r.2.2.1 ∧ r.2.2.1 ≤ 99) ∧ (0 ≤ r.2.2.2 ∧ r.2.2.2 ≤ 99)) (k : Nat) (hk : k ≤ rs.length) :
    (0 ≤ madeN (rs.take k) c ∧ madeN (rs.take k) c ≤ 99 * k) ∧ (0 ≤ agN (rs.take k) c ∧ agN (rs.take k) c ≤ 99 * k) := by
  induction k with
  | zero => simp [madeN, agN]
  | succ k ih =>
    have ih := ih (by omega)
    have hr := hv _ (r4_mem (by omega : k < rs.length))
    rcases h : plays c (r4At rs k) with _ | _
    · rw [(goals_no (by omega) h).1, (goals_no (by omega) h).2]; omega
    · rw [(goals_yes (by omega) h).1, (goals_yes (by omega) h).2]
      unfold gf1 gf2
      split <;> omega
theorem league_goals {s : Int} {rs : List R4} (h : leagueB s rs = true) : ∀ r ∈ rs, (0 ≤ r.2.2.1 ∧ r.2.2.1 ≤ 99) ∧ (0 ≤ r.2.2.2 ∧ r.2.2.2 ≤ 99) := fun r hr => by
  have := resB_true.1 ((leagueB_true.1 h).2.2 r hr)
  exact ⟨this.2.2.2.1, this.2.2.2.2⟩

noncomputable def goals1 (s : Int) (rs : List R4) (club : Int) : Int := if leagueB s rs = true ∧ inB club 0 (s - 1) = true then madeN rs club else -1
noncomputable def goals2 (s : Int) (rs : List R4) (club : Int) : Int := if leagueB s rs = true ∧ inB club 0 (s - 1) = true then agN rs club else -1
theorem goals12_no {s : Int} {rs : List R4} {club : Int} (h : ¬ (leagueB s rs = true ∧ inB club 0 (s - 1) = true)) : goals1 s rs club = -1 ∧ goals2 s rs club = -1 := by unfold goals1 goals2; rw [if_neg h, if_neg h]; exact ⟨rfl, rfl⟩
theorem goals12_yes {s : Int} {rs : List R4} {club : Int} (h : leagueB s rs = true ∧ inB club 0 (s - 1) = true) : goals1 s rs club = madeN rs club ∧ goals2 s rs club = agN rs club := by unfold goals1 goals2; rw [if_pos h, if_pos h]; exact ⟨rfl, rfl⟩
theorem ret_two {a b c d : Int} (h : a = c ∧ b = d) : Ending.returned (.tuple #[.int .i64 a, .int .i64 b]) = .returned (.tuple #[.int .i64 c, .int .i64 d]) := by rw [h.1, h.2]
end Go.Proofs.YthoodjjjklbggaaGreatDoor

namespace Go.Proofs.YthoodjjjklbggaaGreatDoor
open Go.RowKit

def cmpI (x y : Int) : Int := if x < y then -1 else if y < x then 1 else 0
theorem cmpI_bd (x y : Int) : -1 ≤ cmpI x y ∧ cmpI x y ≤ 1 := by unfold cmpI; repeat' split <;> omega
set_option maxHeartbeats 400000 in
theorem isNaN_any (x : Int) (w : World) : Calls Tryz.prog 76 #[.int .i64 x] w fun e w' => e = .returned (.bool false) ∧ w = w' := by
  have h : (x != x) = false := by simp
  go_enter Tryz.func76, Tryz.ntmps76
  go_wp2
  go_ret
  exact ⟨rfl, rfl⟩
set_option maxHeartbeats 400000 in
theorem compare_any (x y : Int) (w : World) : Calls Tryz.prog 49 #[.int .i64 x, .int .i64 y] w fun e w' => e = .returned (.int .i64 (cmpI x y)) ∧ w = w' := by
  go_enter Tryz.func49, Tryz.ntmps49
  go_wp2_with (go_at_call 76; refine (isNaN_any _ _).mono ?_; rintro e w1 ⟨rfl, rfl⟩)
  all_goals
    go_ret
    refine ⟨ret_int ?_, rfl⟩
    unfold cmpI
    (repeat' split) <;> first | rfl | omega
/-- the first number that is not 0 -/
def orI (xs : List Int) : Int := (xs.find? fun x => !(x == 0)).getD 0
theorem orI_hit {xs : List Int} {k : Nat} (hk : k < xs.length) (hx : (xs[k]?.getD 0 != 0) = true) (h : ∀ x ∈ xs.take k, x = 0) : orI xs = xs[k]?.getD 0 := by
  have e : xs[k]?.getD 0 = xs[k] := by simp [hk]
  rw [e] at hx ⊢
  unfold orI
  have : xs.find? (fun x => !(x == 0)) = some xs[k] := by
    rw [List.find?_eq_some_iff_getElem]
    refine ⟨by simpa using hx, k, hk, rfl, fun j hj => ?_⟩
    have := h xs[j] (by
      rw [List.mem_iff_getElem?]
      exact ⟨j, by rw [List.getElem?_take, if_pos hj, List.getElem?_eq_getElem]⟩)
    simp [this]
  rw [this]; rfl
theorem orI_miss {xs : List Int} (h : ∀ x ∈ xs, x = 0) : orI xs = 0 := by
  unfold orI
  have : xs.find? (fun x => !(x == 0)) = none := by
    rw [List.find?_eq_none]
    intro x hx
    simp [h x hx]
  rw [this]; rfl
theorem zeros_step {xs : List Int} {k : Nat} (hk : k < xs.length) (hx : (xs[k]?.getD 0 != 0) = false) (h : ∀ x ∈ xs.take k, x = 0) : ∀ x ∈ xs.take (k + 1), x = 0 := by
  have e : xs[k]?.getD 0 = xs[k] := by simp [hk]
  rw [e] at hx
  rw [List.take_succ_eq_append_getElem hk]
  intro x hx'
  rw [List.mem_append, List.mem_singleton] at hx'
  rcases hx' with hx' | rfl
  · exact h x hx'
  · simpa using hx
set_option maxHeartbeats 400000 in
theorem cmpOr_any (v : Value) (xs : List Int) (w : World) (h : Rd w v xs) :
    Calls Tryz.prog 48 #[v] w fun e w' => e = .returned (.int .i64 (orI xs)) ∧ w = w' := by
  obtain ⟨A, c, rfl, hl1, hm1, hc1⟩ := h
  unfold maxLen at hm1
  generalize hn : xs.length = n at *
  have H1 := Lib.hid hn
  have H3 := Lib.hid hc1
  clear hn hc1
  go_enter Tryz.func48, Tryz.ntmps48
  go_wp2
  go_loop [8] (fun i => ∃ k : Nat, k ≤ n ∧ i = .int .i64 k ∧ Hid (∀ x ∈ xs.take k, x = 0)) (fun i => n - (intOf i).toNat)
  case atStart => exact ⟨0, Nat.zero_le _, rfl, by simp [Hid]⟩
  case round =>
    obtain ⟨k, hk, rfl, HN⟩ := hrel
    by_cases hlt : k < n
    · obtain ⟨b, off, rfl, hb, hx⟩ := H3.out (by omega)
      have hxk := hx k hlt
      clear hx
      go_wp2
      · have h : (xs[k]?.getD 0 != 0) = true := by assumption
        go_ret
        exact ⟨ret_int (orI_hit (by rw [H1.out]; exact hlt) h HN.out).symm, rfl⟩
      · have h : (xs[k]?.getD 0 != 0) = false := by assumption
        go_round
        case rel => exact ⟨k + 1, by omega, by go_num, zeros_step (by rw [H1.out]; exact hlt) h HN.out⟩
        case measure => simp [intOf]; omega
    · obtain rfl : k = n := by omega
      go_wp2
      go_ret
      exact ⟨ret_int (orI_miss (by have := HN.out; rwa [List.take_of_length_le (by rw [H1.out]; exact Nat.le_refl _)] at this)).symm, rfl⟩
end Go.Proofs.YthoodjjjklbggaaGreatDoor

namespace Go.Proofs.YthoodjjjklbggaaGreatDoor
open Go.RowKit Go.Sort

/-- 2 for a win of a club that plays, 1 for a draw, 0 for a defeat -/
def outc (club : Int) (r : R4) : Int := 1 + cmpI (gf1 club r) (gf2 club r)
theorem outc_cases (club : Int) (r : R4) : outc club r = 0 ∨ outc club r = 1 ∨ outc club r = 2 := by
  have := cmpI_bd (gf1 club r) (gf2 club r)
  unfold outc; omega
/-- points by goals -/
def p3 (x y : Int) : Int := if y < x then 3 else if x < y then 0 else 1
def ptsC (n : Int) : Int := if n = 2 then 3 else if n = 1 then 1 else 0
theorem p3_cmp (x y : Int) : p3 x y = ptsC (1 + cmpI x y) := by
  unfold p3 ptsC cmpI
  repeat' split
  all_goals first | omega | rfl
def recN (rs : List R4) (c : Int) (n : Int) : Nat := (rs.filter (fun r => plays c r && (outc c r == n))).length
theorem recN_le (rs : List R4) (c n : Int) (k : Nat) : recN (rs.take k) c n ≤ k := by
  unfold recN
  refine Nat.le_trans (List.length_filter_le _ _) ?_
  rw [List.length_take]; omega
theorem recN_yes {rs : List R4} {k : Nat} {c n : Int} (hk : k < rs.length) (h : plays c (r4At rs k) = true) (h2 : outc c (r4At rs k) = n) (m : Int) : recN (rs.take (k + 1)) c m = recN (rs.take k) c m + if n = m then 1 else 0 := by
  rw [take_snocR hk]
  unfold recN
  rw [List.filter_append, List.length_append]
  congr 1
  rw [List.filter_cons, h, h2]
  by_cases e : n = m
  · simp [e]
  · simp [e]
theorem recN_no {rs : List R4} {k : Nat} {c : Int} (hk : k < rs.length) (h : plays c (r4At rs k) = false) (m : Int) : recN (rs.take (k + 1)) c m = recN (rs.take k) c m := by
  rw [take_snocR hk]; simp [recN, List.filter_append, h]

/-- three counts in a box -/
def C3 (W : World) (g : Nat) (a b c : Int) : Prop := (W.cell? ⟨g, 0, none⟩ = some (.int .i64 a) ∧ W.cell? ⟨g, 1, none⟩ = some (.int .i64 b) ∧ W.cell? ⟨g, 2, none⟩ = some (.int .i64 c)) ∧ ∀ k, W.frozen? ⟨g, k, none⟩ = false
theorem C3.below {W W' : World} {g : Nat} {a b c : Int} (h : C3 W g a b c) (hb : Below W.heap.size W W') : C3 W' g a b c := by
  obtain ⟨⟨h0, h1, h2⟩, h3⟩ := h
  have hg := World.block_lt_of_cell? W _ h0
  obtain ⟨hc, hf⟩ := bcell hb
  exact ⟨⟨(hc _ _ hg).trans h0, (hc _ _ hg).trans h1, (hc _ _ hg).trans h2⟩, fun k => (hf _ _ hg).trans (h3 k)⟩
theorem C3.set {W : World} {g : Nat} {a b c : Int} (h : C3 W g a b c) (x : Int) :
    C3 (W.setCell ⟨g, 0, none⟩ (.int .i64 x)) g x b c ∧ C3 (W.setCell ⟨g, 1, none⟩ (.int .i64 x)) g a x c ∧ C3 (W.setCell ⟨g, 2, none⟩ (.int .i64 x)) g a b x := by
  obtain ⟨⟨h0, h1, h2⟩, h3⟩ := h
  have S : ∀ {p : Addr} {u : Value}, W.cell? p = some u → (W.setCell p (.int .i64 x)).cell? p = some (.int .i64 x) := fun h => World.cell?_setCell_same _ _ _ h
  have O : ∀ {p q : Addr} {u : Value}, p ≠ q → W.cell? q = some u → (W.setCell p (.int .i64 x)).cell? q = some u := fun hn h => (World.cell?_setCell_other _ _ _ _ hn).trans h
  have F : ∀ p k, (W.setCell p (.int .i64 x)).frozen? ⟨g, k, none⟩ = false := fun p k => by have := h3 k; simpa [go_sem] using this
  exact ⟨⟨⟨S h0, O (by simp) h1, O (by simp) h2⟩, F _⟩, ⟨⟨O (by simp) h0, S h1, O (by simp) h2⟩, F _⟩, ⟨⟨O (by simp) h0, O (by simp) h1, S h2⟩, F _⟩⟩
theorem C3.gt {W : World} {g : Nat} {a b c : Int} (h : C3 W g a b c) : g < W.heap.size := World.block_lt_of_cell? W _ h.1.1
noncomputable def recI (s : Int) (rs : List R4) (club : Int) (n : Int) : Int := if leagueB s rs = true ∧ inB club 0 (s - 1) = true then (recN rs club n : Int) else -1
noncomputable def rec1 (s : Int) (rs : List R4) (club : Int) : Int := recI s rs club 2
noncomputable def rec2 (s : Int) (rs : List R4) (club : Int) : Int := recI s rs club 1
noncomputable def rec3 (s : Int) (rs : List R4) (club : Int) : Int := recI s rs club 0
theorem recI_no {s : Int} {rs : List R4} {club n : Int} (h : ¬ (leagueB s rs = true ∧ inB club 0 (s - 1) = true)) : recI s rs club n = -1 := by unfold recI; rw [if_neg h]
theorem recI_yes {s : Int} {rs : List R4} {club n : Int} (h : leagueB s rs = true ∧ inB club 0 (s - 1) = true) : recI s rs club n = recN rs club n := by unfold recI; rw [if_pos h]
theorem ret_rec {s : Int} {rs : List R4} {club : Int} {a b c : Int} (h : ∀ n, recI s rs club n = if n = 2 then a else if n = 1 then b else if n = 0 then c else recI s rs club n) :
    Ending.returned (.tuple #[.int .i64 a, .int .i64 b, .int .i64 c]) = .returned (.tuple #[.int .i64 (rec1 s rs club), .int .i64 (rec2 s rs club), .int .i64 (rec3 s rs club)]) := by
  unfold rec1 rec2 rec3
  rw [h 2, h 1, h 0]; simp
theorem ret_rec_no {s : Int} {rs : List R4} {club : Int} (h : ¬ (leagueB s rs = true ∧ inB club 0 (s - 1) = true)) :
    Ending.returned (.tuple #[.int .i64 (-1), .int .i64 (-1), .int .i64 (-1)]) = .returned (.tuple #[.int .i64 (rec1 s rs club), .int .i64 (rec2 s rs club), .int .i64 (rec3 s rs club)]) := by
  unfold rec1 rec2 rec3
  rw [recI_no h, recI_no h, recI_no h]
theorem ret_rec_yes {s : Int} {rs : List R4} {club : Int} (h : leagueB s rs = true ∧ inB club 0 (s - 1) = true) :
    Ending.returned (.tuple #[.int .i64 (recN rs club 2 : Int), .int .i64 (recN rs club 1 : Int), .int .i64 (recN rs club 0 : Int)]) = .returned (.tuple #[.int .i64 (rec1 s rs club), .int .i64 (rec2 s rs club), .int .i64 (rec3 s rs club)]) := by
  unfold rec1 rec2 rec3
  rw [recI_yes h, recI_yes h, recI_yes h]
end Go.Proofs.YthoodjjjklbggaaGreatDoor

namespace Go.Proofs.YthoodjjjklbggaaGreatDoor
open Go.RowKit Go.Sort

theorem Own.at0 {w : World} {base g n c : Nat} {xs : List Int} (h : Own w base (.slice (some ⟨g, 0, none⟩) n c) xs) (hl : xs.length = n) (h0 : 0 < n) :
    (∀ k, k < n → w.cell? ⟨g, k, none⟩ = some (.int .i64 (xs.getD k 0))) ∧ ∀ k, w.frozen? ⟨g, k, none⟩ = false := by
  obtain ⟨g', c', e, -, -, -, hx, hf⟩ := h.at_ hl h0
  injection e with e _ _
  injection e with e
  injection e with e _ _
  subst e
  exact ⟨hx, hf⟩
theorem ints_made (n : Nat) : (madeCells (Value.int IntKind.i64 0).cells (n * 1)).toList = (List.replicate n (0 : Int)).map (Value.int .i64) := by
  have := toList_madeCells_one (.int .i64 0) (n * 1)
  simpa [Value.cells] using this
/-- the points of a club out of a result -/
def ptsR (c : Int) (r : R4) : Int := if plays c r = true then ptsC (outc c r) else 0
def ptsK (rs : List R4) (c : Int) : Int := (rs.map (ptsR c)).sum
def ptsLK (rs : List R4) (n : Nat) : List Int := (List.range n).map fun c => ptsK rs (c : Nat)
noncomputable def ptsL (s : Int) (rs : List R4) : List Int := if leagueB s rs = true then ptsLK rs s.toNat else []
theorem ptsLK_len (rs : List R4) (n : Nat) : (ptsLK rs n).length = n := by simp [ptsLK]
theorem ptsL_len (s : Int) (rs : List R4) : (ptsL s rs).length ≤ 8 := by
  unfold ptsL
  split
  · rename_i h
    have := (leagueB_true.1 h).1
    rw [ptsLK_len]; omega
  · simp
theorem ptsLK_getD (rs : List R4) (n c : Nat) (h : c < n) : (ptsLK rs n).getD c 0 = ptsK rs c := by simp [ptsLK, h]
theorem ptsC_bd (n : Int) : 0 ≤ ptsC n ∧ ptsC n ≤ 3 := by unfold ptsC; repeat' split <;> omega
theorem ptsK_step {rs : List R4} {k : Nat} (hk : k < rs.length) (c : Int) : ptsK (rs.take (k + 1)) c = ptsK (rs.take k) c + ptsR c (r4At rs k) := by
  rw [take_snocR hk]; simp [ptsK]
theorem ptsR_bd (c : Int) (r : R4) : 0 ≤ ptsR c r ∧ ptsR c r ≤ 3 := by
  have := ptsC_bd (outc c r)
  unfold ptsR; split <;> omega
theorem ptsK_bd (rs : List R4) (c : Int) (k : Nat) (hk : k ≤ rs.length) : 0 ≤ ptsK (rs.take k) c ∧ ptsK (rs.take k) c ≤ 3 * k := by
  induction k with
  | zero => simp [ptsK]
  | succ k ih =>
    have ih := ih (by omega)
    have := ptsR_bd c (r4At rs k)
    rw [ptsK_step (by omega)]; omega
theorem getD_set_ne' {xs : List Int} {a b : Nat} (v : Int) (h : a ≠ b) : (xs.set a v).getD b 0 = xs.getD b 0 := by
  simp [List.getD_eq_getElem?_getD, List.getElem?_set, h]
theorem getD_set_eq' {xs : List Int} {a : Nat} (v : Int) (h : a < xs.length) : (xs.set a v).getD a 0 = v := by
  simp [List.getD_eq_getElem?_getD, h]
/-- both clubs of a result get their points -/
theorem ptsLK_step {rs : List R4} {k n a b : Nat} (hk : k < rs.length) (ha : (r4At rs k).1 = a) (hb : (r4At rs k).2.1 = b) (hab : a ≠ b) (han : a < n) (hbn : b < n) :
    ((ptsLK (rs.take k) n).set a (ptsK (rs.take k) a + ptsC (outc a (r4At rs k)))).set b (ptsK (rs.take k) b + ptsC (outc b (r4At rs k))) = ptsLK (rs.take (k + 1)) n := by
  have hl := ptsLK_len (rs.take k) n
  refine List.ext_getElem (by simp [ptsLK_len]) fun j h1 h2 => ?_
  have hj : j < n := by simpa [ptsLK_len] using h2
  have e2 : (ptsLK (rs.take (k + 1)) n)[j] = ptsK (rs.take (k + 1)) (j : Nat) := by simp [ptsLK]
  have e0 : (ptsLK (rs.take k) n)[j]'(by omega) = ptsK (rs.take k) (j : Nat) := by simp [ptsLK]
  rw [e2, ptsK_step hk, List.getElem_set, List.getElem_set, e0]
  have hpl : plays (j : Int) (r4At rs k) = (decide (a = j) || decide (b = j)) := by
    unfold plays; rw [ha, hb, Bool.eq_iff_iff]; simp; omega
  by_cases e : b = j
  · subst e
    rw [if_pos rfl, ptsR, if_pos (by rw [hpl]; simp)]
  · rw [if_neg e]
    by_cases e' : a = j
    · subst e'
      rw [if_pos rfl, ptsR, if_pos (by rw [hpl]; simp)]
    · rw [if_neg e', ptsR, if_neg (by rw [hpl]; simp [e, e']), Int.add_zero]
theorem ptsLK_zero (n : Nat) : ptsLK [] n = List.replicate n 0 := by
  rw [List.eq_replicate_iff]
  exact ⟨ptsLK_len _ _, fun x hx => by
    unfold ptsLK at hx
    rw [List.mem_map] at hx
    obtain ⟨c, -, rfl⟩ := hx
    rfl⟩
end Go.Proofs.YthoodjjjklbggaaGreatDoor

namespace Go.Proofs.YthoodjjjklbggaaGreatDoor
open Go.RowKit Go.Sort
set_option maxRecDepth 100000
theorem bt_irr {xs : List Int} {n : Nat} (hp : tourP n xs) (a : Nat) : bt xs a a = false := by
  by_cases ha : a < xs.length
  · exact (tour_bits hp).2.1 a ha
  · unfold bt winsN
    rw [List.getD_eq_getElem?_getD, List.getElem?_eq_none (by omega)]
    simp
theorem cost_pop {xs : List Int} {n S a : Nat} (hp : tourP n xs) (ha : a < n) (hS : S < 2 ^ n) : popN 8 (S &&& lossN xs a) = costN (bt xs) n S a := by
  have hl := tour_len hp
  have h8 : n ≤ 8 := by have := hp.1; omega
  have hlt : S &&& lossN xs a < 256 := Nat.lt_of_le_of_lt Nat.and_le_left (Nat.lt_of_lt_of_le hS (pow_le h8))
  rw [pop_mem hlt]
  have e8 : memN (S &&& lossN xs a) 8 = memN (S &&& lossN xs a) n := by
    have : (S &&& lossN xs a) / 2 ^ n = 0 := Nat.div_eq_of_lt (Nat.lt_of_le_of_lt Nat.and_le_left hS)
    rw [memN_top h8 this]
  rw [e8]
  unfold costN
  have e1 : memN (S &&& lossN xs a) n = (memN S n).filter fun b => (lossN xs a).testBit b := by
    unfold memN
    rw [List.filter_filter]
    refine List.filter_congr fun b _ => ?_
    rw [Nat.testBit_and, Bool.and_comm]
  rw [e1, ← List.countP_eq_length_filter]
  refine List.countP_congr fun b hb => ?_
  have hbn := (mem_memN.1 hb).1
  have h1 : b ∈ memN (lossN xs a) xs.length ↔ b ∈ loseN xs a xs.length := by rw [loss_list hp (by rw [hl]; exact ha)]
  obtain ⟨T, e, -⟩ := (tour_bits hp).1 b (by rw [hl]; exact hbn)
  rw [mem_memN, hl] at h1
  unfold loseN at h1
  rw [List.mem_filter, List.mem_range, bitI_bt e] at h1
  simp only [hbn, true_and] at h1
  exact h1
/-- the rows of the table, as far as they stand -/
def arF (r : Nat → Nat → Bool) (n S k : Nat) : Int × Nat := ((memN S n).take k).foldl (arStp (fun a => (costN r n S a : Int) + (arT r n (less S (2 ^ a))).1) (fun a => (arT r n (less S (2 ^ a))).2)) (-1, 0)
def arIs (r : Nat → Nat → Bool) (n S : Nat) (F M : List Int) : Prop :=
  F.length = 2 ^ n ∧ M.length = 2 ^ n ∧ (∀ T, T < S → F.getD T 0 = (arT r n T).1 ∧ M.getD T 0 = ((arT r n T).2 : Int)) ∧ ∀ T, S ≤ T → M.getD T 0 = 0
def arIn (r : Nat → Nat → Bool) (n S k : Nat) (F M : List Int) : Prop :=
  F.length = 2 ^ n ∧ M.length = 2 ^ n ∧ (∀ T, T < S → F.getD T 0 = (arT r n T).1 ∧ M.getD T 0 = ((arT r n T).2 : Int)) ∧ (∀ T, S < T → M.getD T 0 = 0) ∧ F.getD S 0 = (arF r n S k).1 ∧ M.getD S 0 = ((arF r n S k).2 : Int)
theorem arIn_start {r : Nat → Nat → Bool} {n S : Nat} {F M : List Int} (h : arIs r n S F M) (hS : S < 2 ^ n) : arIn r n S 0 (F.set S (-1)) M := by
  obtain ⟨h1, h2, h3, h4⟩ := h
  refine ⟨by rw [List.length_set]; exact h1, h2, fun T hT => ?_, fun T hT => h4 T (by omega), ?_, ?_⟩
  · rw [getD_set_ne' _ (by omega : S ≠ T)]; exact h3 T hT
  · rw [getD_set_eq' _ (by omega)]; rfl
  · rw [h4 S (Nat.le_refl _)]; rfl
theorem arF_succ {r : Nat → Nat → Bool} {n S k : Nat} (hk : k < (memN S n).length) : arF r n S (k + 1) = arStp (fun a => (costN r n S a : Int) + (arT r n (less S (2 ^ a))).1) (fun a => (arT r n (less S (2 ^ a))).2) (arF r n S k) ((memN S n).getD k 0) := by
  unfold arF
  rw [take_snocN hk, List.foldl_append, getD_nat hk]
  rfl
theorem arF_cases {r : Nat → Nat → Bool} {n S k : Nat} (hk : k < (memN S n).length) {a : Nat} (ea : (memN S n).getD k 0 = a) {R : Nat} (eR : less S (2 ^ a) = R) :
    (((arF r n S k).1 < 0 ∨ (costN r n S a : Int) + (arT r n R).1 < (arF r n S k).1) → arF r n S (k + 1) = ((costN r n S a : Int) + (arT r n R).1, (arT r n R).2)) ∧
    (¬ ((arF r n S k).1 < 0 ∨ (costN r n S a : Int) + (arT r n R).1 < (arF r n S k).1) → (costN r n S a : Int) + (arT r n R).1 = (arF r n S k).1 → arF r n S (k + 1) = ((arF r n S k).1, (arF r n S k).2 + (arT r n R).2)) ∧
    (¬ ((arF r n S k).1 < 0 ∨ (costN r n S a : Int) + (arT r n R).1 < (arF r n S k).1) → ¬ (costN r n S a : Int) + (arT r n R).1 = (arF r n S k).1 → arF r n S (k + 1) = arF r n S k) := by
  subst ea eR
  rw [arF_succ hk]
  unfold arStp
  exact ⟨fun h => if_pos h, fun h h2 => by rw [if_neg h]; exact if_pos h2, fun h h2 => by rw [if_neg h]; exact if_neg h2⟩
theorem less_small {n S a : Nat} (hS : S < 2 ^ 62) (ha : a ≤ 61) (h : a ∈ memN S n) : less S (2 ^ a) < S := by
  have hb := (mem_memN.1 h).2
  rw [← sub_less hS ha hb]
  have := Nat.two_pow_pos a
  have := Nat.ge_two_pow_of_testBit hb
  omega
theorem arF_full {r : Nat → Nat → Bool} {n S : Nat} (hS : S < 2 ^ n) (h0 : S ≠ 0) : arF r n S (memN S n).length = arT r n S := by
  unfold arF
  rw [List.take_length, arT_eq hS h0]
theorem arIn_done {r : Nat → Nat → Bool} {n S : Nat} {F M : List Int} (h : arIn r n S (memN S n).length F M) (hS : S < 2 ^ n) (h0 : S ≠ 0) : arIs r n (S + 1) F M := by
  obtain ⟨h1, h2, h3, h4, h5, h6⟩ := h
  refine ⟨h1, h2, fun T hT => ?_, fun T hT => h4 T (by omega)⟩
  by_cases e : T = S
  · subst e
    rw [arF_full hS h0] at h5 h6
    exact ⟨h5, h6⟩
  · exact h3 T (by omega)
theorem arIn_keep {r : Nat → Nat → Bool} {n S k : Nat} {F M : List Int} (h : arIn r n S k F M) (he : arF r n S (k + 1) = arF r n S k) : arIn r n S (k + 1) F M := by
  obtain ⟨h1, h2, h3, h4, h5, h6⟩ := h
  exact ⟨h1, h2, h3, h4, by rw [he]; exact h5, by rw [he]; exact h6⟩
theorem arIn_both {r : Nat → Nat → Bool} {n S k : Nat} {F M : List Int} (h : arIn r n S k F M) (hS : S < 2 ^ n) {c : Int} {m : Nat} (he : arF r n S (k + 1) = (c, m)) : arIn r n S (k + 1) (F.set S c) (M.set S m) := by
  obtain ⟨h1, h2, h3, h4, h5, h6⟩ := h
  refine ⟨by rw [List.length_set]; exact h1, by rw [List.length_set]; exact h2, fun T hT => ?_, fun T hT => ?_, ?_, ?_⟩
  · rw [getD_set_ne' _ (by omega : S ≠ T), getD_set_ne' _ (by omega : S ≠ T)]; exact h3 T hT
  · rw [getD_set_ne' _ (by omega : S ≠ T)]; exact h4 T hT
  · rw [getD_set_eq' _ (by omega), he]
  · rw [getD_set_eq' _ (by omega), he]
theorem arIn_more {r : Nat → Nat → Bool} {n S k : Nat} {F M : List Int} (h : arIn r n S k F M) (hS : S < 2 ^ n) {m : Nat} (he : arF r n S (k + 1) = ((arF r n S k).1, m)) : arIn r n S (k + 1) F (M.set S m) := by
  obtain ⟨h1, h2, h3, h4, h5, h6⟩ := h
  refine ⟨h1, by rw [List.length_set]; exact h2, fun T hT => ?_, fun T hT => ?_, by rw [he]; exact h5, ?_⟩
  · rw [getD_set_ne' _ (by omega : S ≠ T)]; exact h3 T hT
  · rw [getD_set_ne' _ (by omega : S ≠ T)]; exact h4 T hT
  · rw [getD_set_eq' _ (by omega), he]
theorem arF_bound {r : Nat → Nat → Bool} {n S B : Nat} (hn : n ≤ 8) (hB : ∀ a, 0 ≤ (arT r n (less S (2 ^ a))).1 ∧ (arT r n (less S (2 ^ a))).1 ≤ 64 ∧ (arT r n (less S (2 ^ a))).2 ≤ B) : ∀ k, k ≤ (memN S n).length → -1 ≤ (arF r n S k).1 ∧ (arF r n S k).1 ≤ 72 ∧ (arF r n S k).2 ≤ k * B := by
  intro k
  induction k with
  | zero => intro _; unfold arF; exact ⟨by simp, by simp, by simp⟩
  | succ k ih =>
    intro hk
    obtain ⟨i1, i2, i3⟩ := ih (by omega)
    rw [arF_succ (by omega), Nat.succ_mul]
    generalize (memN S n).getD k 0 = a
    obtain ⟨b1, b2, b3⟩ := hB a
    have hc : costN r n S a ≤ 8 := Nat.le_trans List.countP_le_length (Nat.le_trans (memN_len S n) hn)
    unfold arStp
    generalize arF r n S k = z at *
    obtain ⟨z1, z2⟩ := z
    simp only at *
    generalize k * B = q at *
    split
    · exact ⟨by simp only; omega, by simp only; omega, by simp only; omega⟩
    · split
      · exact ⟨i1, i2, by simp only; omega⟩
      · exact ⟨i1, i2, by simp only; omega⟩
variable {n : Nat} {sl : Value} {xs : List Int} {w : World}
set_option maxHeartbeats 1000000 in
theorem cCost (hp : tourP n xs) (h : Rd w sl xs) {a S : Nat} (ha : a < n) (hS : S < 2 ^ n) : Calls Tryz.prog 67 #[.agg #[.int .i64 n, sl], .int .i64 a, .int .i64 S] w fun e w' => e = .returned (.int .i64 (costN (bt xs) n S a : Nat)) ∧ Below w.heap.size w w' := by
  have HR := Lib.hid h
  obtain ⟨A, cA, rfl, -, -, -⟩ := h
  have hl := tour_len hp
  have HC := Lib.hid (cost_pop hp ha hS)
  have h8 : n ≤ 8 := by have := hp.1; omega
  have hS8 : S < 256 := Nat.lt_of_lt_of_le hS (pow_le h8)
  have hL8 : lossN xs a < 256 := Nat.lt_of_lt_of_le (less_lt (less_full_lt' xs.length _)) (pow_le (by omega))
  have hlt : S &&& lossN xs a < 256 := Nat.lt_of_le_of_lt Nat.and_le_left hS8
  have hand := i64_and_nat S (lossN xs a) (by omega) (by omega)
  have HP := Lib.hid hp
  have HL := Lib.hid hl
  clear hp hl hS
  go_enter Tryz.func67, Tryz.ntmps67
  go_wp2_with fail
  have b0 := below_alloc1 w (.cells #[.int .i64 n, .slice A xs.length cA] 25)
  have x0 := TBox.new w n (.slice A xs.length cA) 25
  generalize w.alloc (.cells #[.int .i64 n, .slice A xs.length cA] 25) = w0 at *
  have HX0 := Lib.hid x0
  have HB0 := Lib.hid b0
  clear x0 b0
  have y0_0 := HX0.out.1
  have y1_0 := HX0.out.2
  go_wp2_with fail
  refine (losses_any n _ xs a _ (HR.out.below HB0.out) HP.out (by rw [HL.out]; exact ha)).mono ?_
  rintro e w1 ⟨rfl, hb⟩
  have HB1 := Lib.hid (Below.then HB0.out hb)
  clear hb y0_0 y1_0 HX0 HB0
  generalize S &&& lossN xs a = x at *
  generalize lossN xs a = y at *
  go_wp2_with fail
  refine (ones_any x _ hlt).mono ?_
  rintro e w2 ⟨rfl, rfl⟩
  rw [HC.out]
  go_wp2
  go_ret
  exact ⟨rfl, HB1.out⟩
theorem below_makes (w : World) (Z : Array Value) (e : TypeId) : Below w.heap.size w ((w.drew.alloc (.cells Z e)).alloc (.cells Z e)) :=
  let b0 : Below w.heap.size w w.drew := (Below.refl _ _).drew
  (b0.alloc b0.size _).alloc (b0.alloc b0.size _).size _
theorem getD_repA (p T : Nat) : (List.replicate p (0 : Int)).getD T 0 = 0 := by
  rw [List.getD_eq_getElem?_getD, List.getElem?_replicate]
  split <;> rfl
theorem own_made (w : World) (base p : Nat) (hb : base ≤ w.heap.size) (hp : p ≤ 1048576) : Own (w.alloc (.cells (madeCells #[Value.int .i64 0] p) 3)) base (.slice (some ⟨w.heap.size, 0, none⟩) p p) (List.replicate p 0) := by
  have e : (madeCells #[Value.int .i64 0] p).toList = (List.replicate p (0 : Int)).map (Value.int .i64) := by
    have := ints_made' p
    rwa [Nat.mul_one] at this
  have hs : (madeCells #[Value.int .i64 0] p).size = p := by
    rw [← Array.length_toList, e, List.length_map, List.length_replicate]
  have := World.ownsRow_lit (e := 3) (size := 1) w (madeCells #[Value.int .i64 0] p) p hb (by unfold maxLen; omega) (by rw [hs]; omega)
  unfold Own
  rw [List.length_replicate, ← e]
  exact this
set_option maxHeartbeats 4000000 in
theorem cArr (hp : tourP n xs) (h : Rd w sl xs) : Calls Tryz.prog 35 #[.agg #[.int .i64 n, sl]] w fun e w' => ∃ (g1 g2 : Nat) (F M : List Int), e = .returned (.tuple #[.slice (some ⟨g1, 0, none⟩) (2 ^ n) (2 ^ n), .slice (some ⟨g2, 0, none⟩) (2 ^ n) (2 ^ n)]) ∧ arIs (bt xs) n (2 ^ n) F M ∧ Own w' w.heap.size (.slice (some ⟨g1, 0, none⟩) (2 ^ n) (2 ^ n)) F ∧ Own w' w.heap.size (.slice (some ⟨g2, 0, none⟩) (2 ^ n) (2 ^ n)) M ∧ Below w.heap.size w w' := by
  have HR := Lib.hid h
  obtain ⟨A, cA, rfl, -, -, -⟩ := h
  rw [tour_len hp] at *
  have HP := Lib.hid hp
  have h8 : n ≤ 8 := by have := hp.1; omega
  have HIR := Lib.hid (bt_irr hp)
  have hshl : wrap64 (2 ^ n) = ((2 ^ n : Nat) : Int) := shl_nat n (by omega)
  have hP8 := pow_le h8
  have hP1 := Nat.two_pow_pos n
  obtain ⟨p, hpe⟩ : ∃ p, p = 2 ^ n := ⟨_, rfl⟩
  have HPE := Lib.hid hpe
  rw [← hpe] at hshl hP8 hP1 ⊢
  have hshl2 : IntKind.i64.wrap (2 ^ n) = (p : Int) := by have := i64_shl_one n (by omega); rw [Int.one_mul] at this; rw [hpe]; exact this
  clear hp hpe
  have hmk : ∀ W : World, (Instr.makeSlice 23 (.int .i64 (p : Int)) (.int .i64 (p : Int))).run Tryz.prog W = .ok (.slice (some ⟨W.heap.size, 0, none⟩) p p) (W.alloc (.cells (madeCells #[.int .i64 0] p) 3)) := fun W => run_make_row' 23 3 (.int .i64 0) 8 Tryz.underlying23 i64_info rfl .i64 .i64 p (by omega) (by omega) W
  go_enter Tryz.func35, Tryz.ntmps35
  go_wp2_with fail
  have b0 := below_alloc1 w (.cells #[.int .i64 n, .slice A n cA] 25)
  have x0 := TBox.new w n (.slice A n cA) 25
  generalize w.alloc (.cells #[.int .i64 n, .slice A n cA] 25) = w0 at *
  have HX0 := Lib.hid x0
  have HB0 := Lib.hid b0
  clear x0 b0
  have y0_0 := HX0.out.1
  have y1_0 := HX0.out.2
  have HXD := Lib.hid (fun (W : World) (hW : Below w0.heap.size w0 W) => HX0.out.below hW)
  go_cut [4, 5] (fun t4 t5 wx => ∃ g1 g2 : Nat, t4 = .slice (some ⟨g1, 0, none⟩) p p ∧ t5 = .slice (some ⟨g2, 0, none⟩) p p ∧ g1 ≠ g2 ∧ w.heap.size < g1 ∧ w.heap.size < g2 ∧ Hid (Own wx w.heap.size (.slice (some ⟨g1, 0, none⟩) p p) (List.replicate p 0)) ∧ Hid (Own wx w.heap.size (.slice (some ⟨g2, 0, none⟩) p p) (List.replicate p 0)) ∧ Hid (TBox wx w.heap.size n (.slice A n cA)) ∧ Hid (Below w.heap.size w wx))
  case first =>
    have bD : Below w0.heap.size w0 w0 := Below.refl _ _
    have bE := bD.alloc bD.size (.cells (madeCells #[.int .i64 0] p) 3)
    have bF := (bE.alloc bE.size (.cells (madeCells #[.int .i64 0] p) 3)).drew
    have yd := (HXD.out _ bD.drew)
    have ye := (HXD.out _ bE)
    have hg0 : w.heap.size < w0.heap.size := World.block_lt_of_cell? _ _ HX0.out.1
    have oA := (own_made w0 w.heap.size p (by omega) (by omega)).alloc (.cells (madeCells #[.int .i64 0] p) 3)
    have oB := own_made (w0.alloc (.cells (madeCells #[.int .i64 0] p) 3)) w.heap.size p (by simp; omega) (by omega)
    simp only [World.size_alloc] at oA oB
    have oA' := Lib.hid (oA.below ((Below.refl _ _).drew))
    have oB' := Lib.hid (oB.below ((Below.refl _ _).drew))
    have xF' := HXD.out _ bF
    have xF := Lib.hid xF'
    have hBF := Lib.hid (Below.then HB0.out bF)
    have hd0 := yd.1
    have hd1 := yd.2
    have he0 := ye.1
    have he1 := ye.2
    have hf0 := xF'.1
    have hf1 := xF'.2
    have hlt1 : w.heap.size < w0.heap.size + 1 := by omega
    clear oA oB yd ye bD bE bF xF'
    go_region_held3 (fun W => W.cell? ⟨w.heap.size, 0, none⟩ = some (.int .i64 n) ∧ W.cell? ⟨w.heap.size, 1, none⟩ = some (.slice A n cA))
      (first | exact ⟨y0_0, y1_0⟩ | exact ⟨hd0, hd1⟩ | exact ⟨he0, he1⟩ | exact ⟨hf0, hf1⟩)
      (fail)
    all_goals
      go_wp2_with fail
      go_meet
      first
        | exact ⟨_, _, rfl, rfl, by omega, hg0, hlt1, oA', oB', xF, hBF⟩
        | exact ⟨_, _, rfl, rfl, by omega, hlt1, hg0, oB', oA', xF, hBF⟩
  case rest =>
    obtain ⟨g1, g2, rfl, rfl, hg12, hwg1, hwg2, HF, HM, HX, HB⟩ := hcut
    have HCST : Hid (∀ (W : World) (a S : Nat), a < n → S < 2 ^ n → Below w.heap.size w W → Calls Tryz.prog 67 #[.agg #[.int .i64 n, .slice A n cA], .int .i64 a, .int .i64 S] W fun e w' => e = .returned (.int .i64 (costN (bt xs) n S a : Nat)) ∧ Below W.heap.size W w') := Lib.hid fun W a S ha hS hW => cCost HP.out (HR.out.below hW) ha hS
    clear HXD HX0 HB0 HP hshl hshl2 hmk y0_0 y1_0 HR
    have hlz : (List.replicate p (0 : Int)).length = p := List.length_replicate
    obtain ⟨hcm, hfm⟩ := HM.out.at0 hlz hP1
    have z0 := hcm 0 hP1
    have f0 := hfm 0
    have e0 : (List.replicate p (0 : Int)).getD 0 0 = 0 := by
      obtain ⟨q, rfl⟩ : ∃ q, p = q + 1 := ⟨p - 1, by omega⟩
      rfl
    rw [e0] at z0
    obtain ⟨o2, gr2⟩ := HM.out.set_ hlz 0 1
    have hS1 := HF.out.kept gr2 (by right; simp [Value.ownBlock]; exact hg12)
    have HM1 := Lib.hid o2
    have HF1 := Lib.hid hS1
    have HX1 := Lib.hid (HX.out.kept gr2 (by simp; omega))
    have HB1 := Lib.hid (HB.out.setCell (p := ⟨g2, 0, none⟩) (by exact Nat.le_of_lt hwg2) (.int .i64 1))
    clear o2 hS1 gr2 HM HF HX HB hcm hfm
    go_wp2
    have hA1 : arIs (bt xs) n 1 (List.replicate p 0) ((List.replicate p 0).set 0 1) := by
      refine ⟨by rw [hlz, HPE.out], by rw [List.length_set, hlz, HPE.out], fun T hT => ?_, fun T hT => ?_⟩
      · obtain rfl : T = 0 := by omega
        rw [arT_zero, getD_set_eq' _ (by rw [hlz]; exact hP1)]
        exact ⟨e0, rfl⟩
      · rw [getD_set_ne' _ (by omega : 0 ≠ T)]
        exact getD_repA p T
    have HA1 := Lib.hid hA1
    clear hA1 hlz e0 z0 f0
    go_loopw [6] (fun t6 wr => ∃ (S : Nat) (F M : List Int), 1 ≤ S ∧ S ≤ p ∧ t6 = .int .i64 S ∧ Hid (arIs (bt xs) n S F M) ∧ Hid (Own wr w.heap.size (.slice (some ⟨g1, 0, none⟩) p p) F) ∧ Hid (Own wr w.heap.size (.slice (some ⟨g2, 0, none⟩) p p) M) ∧ Hid (TBox wr w.heap.size n (.slice A n cA)) ∧ Hid (Below w.heap.size w wr)) (fun t6 _ => p - (intOf t6).toNat)
    case atStart => exact ⟨1, _, _, by omega, by omega, rfl, HA1, HF1, HM1, HX1, HB1⟩
    case round =>
      obtain ⟨wa, rfl⟩ : ∃ x, x = wr := ⟨_, rfl⟩
      obtain ⟨S, F, M, hS1, hSp, rfl, HA, HF, HM, HX, HB⟩ := hrel
      clear HA1 HF1 HM1 HX1 HB1
      by_cases hlt : S < p
      · as_aux_lemma =>
        have hS : S < 2 ^ n := by rw [← HPE.out]; exact hlt
        have hFl : F.length = p := by rw [HPE.out]; exact HA.out.1
        obtain ⟨hcf, hff⟩ := HF.out.at0 hFl hP1
        have zf := hcf S hlt
        have ff := hff S
        obtain ⟨o1, gr1⟩ := HF.out.set_ hFl S (-1)
        have HF1 := Lib.hid o1
        have HM1 := Lib.hid (HM.out.kept gr1 (by right; simp [Value.ownBlock]; exact fun e => hg12 e.symm))
        have HX1 := Lib.hid (HX.out.kept gr1 (by simp; omega))
        have HB1 := Lib.hid (HB.out.setCell (p := ⟨g1, S, none⟩) (by exact Nat.le_of_lt hwg1) (.int .i64 (-1)))
        have HN1 := Lib.hid (arIn_start HA.out hS)
        clear o1 gr1 HF HM HX HB HA hcf hff
        have hSn60 := hS
        go_wp2_with fail
        generalize wa.setCell ⟨g1, S, none⟩ (.int .i64 (-1)) = wb at *
        generalize F.set S (-1) = F1 at *
        refine (membersOf_any S n wb hS (by omega)).mono ?_
        rintro e w2 ⟨v, rfl, ho, hb2⟩
        obtain ⟨B, d, rfl, hd1, hd2, -⟩ := memL_cells ho
        unfold maxLen at hd1
        have HV2 := Lib.hid ho
        have hb1s : g1 < wb.heap.size ∧ g2 < wb.heap.size := ⟨(HF1.out.lt g1 rfl).2, (HM1.out.lt g2 rfl).2⟩
        have HF2 := Lib.hid (HF1.out.below hb2)
        have HM2 := Lib.hid (HM1.out.below hb2)
        have HX2 := Lib.hid (HX1.out.below hb2)
        have HB2 := Lib.hid (Below.then HB1.out hb2)
        have hm8 := memN_len S n
        have HLT := Lib.hid (fun k (hk : k < (memN S n).length) => show (memN S n).getD k 0 ∈ memN S n from by rw [getD_nat hk]; exact List.getElem_mem hk)
        have hb60 : wb.heap.size ≤ w2.heap.size := hb2.size
        clear hb2 ho HF1 HM1 HX1 HB1 zf ff
        generalize hLn : (memN S n).length = m at *
        have HLN := Lib.hid hLn
        clear hLn
        go_wp2
        go_loopw [33] (fun t33 wr => ∃ (k : Nat) (F M : List Int), k ≤ m ∧ t33 = .int .i64 k ∧ Hid (arIn (bt xs) n S k F M) ∧ Hid (Own wr w.heap.size (.slice (some ⟨g1, 0, none⟩) p p) F) ∧ Hid (Own wr w.heap.size (.slice (some ⟨g2, 0, none⟩) p p) M) ∧ Hid (Own wr wb.heap.size (.slice B m d) (memL S n)) ∧ Hid (TBox wr w.heap.size n (.slice A n cA)) ∧ Hid (Below w.heap.size w wr)) (fun t33 _ => m - (intOf t33).toNat)
        case atStart => exact ⟨0, F1, M, by omega, rfl, HN1, HF2, HM2, HV2, HX2, HB2⟩
        case round =>
          obtain ⟨wk, rfl⟩ : ∃ x, x = wr := ⟨_, rfl⟩
          obtain ⟨k, F, M, hk, rfl, HN, HF, HM, HV, HX, HB⟩ := hrel
          clear HN1 HF2 HM2 HV2 HX2 HB2
          by_cases hltk : k < m
          · as_aux_lemma =>
            have hkl : k < (memN S n).length := by rw [HLN.out]; exact hltk
            have hmem := HLT.out k hltk
            have ha := (mem_memN.1 hmem).1
            have hS60 : S < 2 ^ 62 := Nat.lt_of_lt_of_le hlt (Nat.le_trans hP8 (by decide))
            have hRS := less_small hS60 (by omega) hmem
            have hFl : F.length = p := by rw [HPE.out]; exact HN.out.1
            have hMl : M.length = p := by rw [HPE.out]; exact HN.out.2.1
            have hand := andNot_shl S ((memN S n).getD k 0) (by omega) (by omega)
            have hval := HN.out.2.2.1 _ hRS
            have hfs := HN.out.2.2.2.2.1
            have hms := HN.out.2.2.2.2.2
            have hbR := arT_bound (r := bt xs) (S := less S (2 ^ (memN S n).getD k 0)) HIR.out h8 (less_lt hS)
            have hbF := arF_bound (r := bt xs) (S := S) h8 (fun a => arT_bound (r := bt xs) (S := less S (2 ^ a)) HIR.out h8 (less_lt hS)) k (by omega)
            have hmq : k * 16777216 ≤ 134217728 := by
              have : k ≤ 8 := by omega
              omega
            have hc8 : costN (bt xs) n S ((memN S n).getD k 0) ≤ 8 := Nat.le_trans List.countP_le_length (Nat.le_trans (memN_len S n) h8)
            have HST := Lib.hid (arF_cases (r := bt xs) hkl rfl rfl)
            have k1 := quiet_below (w := wk) (fun W hW => HCST.out W ((memN S n).getD k 0) S ha hS (Below.then HB.out hW))
            have hVl : (memL S n).length = m := by rw [← HLN.out]; unfold memL; rw [List.length_map]
            obtain ⟨gv, cv, ev, -, -, -, hxv, -⟩ := HV.out.at_ hVl (by omega)
            injection ev with ev1 ev2 ev3
            subst ev1 ev3
            have zv := hxv k hltk
            rw [memL_at hkl, ← getD_nat hkl] at zv
            obtain ⟨hcf, hff⟩ := HF.out.at0 hFl hP1
            obtain ⟨hcm, hfm⟩ := HM.out.at0 hMl hP1
            have zr := hcf _ (Nat.lt_trans hRS hlt)
            rw [hval.1] at zr
            have hvm := hval.2
            clear hxv hcf hff hcm hfm hval hmem
            generalize (memN S n).getD k 0 = a at *
            generalize less S (2 ^ a) = R at *
            generalize costN (bt xs) n S a = C at *
            generalize hUe : arF (bt xs) n S (k + 1) = U at *
            have HUE := Lib.hid hUe
            clear hUe
            generalize arT (bt xs) n R = V at *
            generalize hTe : arF (bt xs) n S k = T at *
            have HTE := Lib.hid hTe
            clear hTe
            obtain ⟨V1, V2⟩ := V
            obtain ⟨T1, T2⟩ := T
            simp only at *
            have y0_0 := HX.out.1
            have y1_0 := HX.out.2
            have c0 := cell_regrown zr
            have hVb : (V2 : Int) ≤ 16777216 := by omega
            have hTb : (T2 : Int) ≤ 134217728 := by omega
            have HFl := Lib.hid hFl
            have HMl := Lib.hid hMl
            have HVV := Lib.hid (show V2 ≤ 16777216 from hbR.2.2)
            go_wp2_with fail
            have y0_q := cell_regrown y0_0
            have y1_q := cell_regrown y1_0
            clear y0_0 y1_0
            refine wp_region_below (by kernel_rfl) (by kernel_rfl) ?_
            repeat (go_big_quiet_step (first | (with_reducible exact k1 _ _)))
            refine wpQuiet_nil ?_
            intro wq hbq0
            have hbq := Lib.hid hbq0
            clear hbq0
            clear y0_q y1_q
            have HF2 := Lib.hid (HF.out.below hbq.out)
            have HM2 := Lib.hid (HM.out.below hbq.out)
            have HV2 := Lib.hid (HV.out.below hbq.out)
            have HX2 := Lib.hid (HX.out.below hbq.out)
            have HB2 := Lib.hid (Below.then HB.out hbq.out)
            obtain ⟨hcf, hff⟩ := HF2.out.at0 HFl.out hP1
            obtain ⟨hcm, hfm⟩ := HM2.out.at0 HMl.out hP1
            have zs := hcf S hlt
            rw [hfs] at zs
            have fs := hff S
            clear hcf hff k1 c0 zr zv HF HM HV HX HB hbq
            by_cases h1 : T1 < 0 ∨ (C : Int) + V1 < T1
            · as_aux_lemma =>
              have HUU : Hid (U = ((C : Int) + V1, V2)) := by unfold Hid; exact HST.out.1 h1
              have zmr := hcm R (by omega)
              rw [hvm] at zmr
              have zms := hcm S hlt
              have fms := hfm S
              obtain ⟨o3, gr3⟩ := HF2.out.set_ HFl.out S ((C : Int) + V1)
              have HM3 := Lib.hid (HM2.out.kept gr3 (by right; simp [Value.ownBlock]; exact fun e => hg12 e.symm))
              obtain ⟨o4, gr4⟩ := HM3.out.set_ HMl.out S (V2 : Int)
              have HF4 := Lib.hid (o3.kept gr4 (by right; simp [Value.ownBlock]; exact hg12))
              have HM4 := Lib.hid o4
              have HX4 := Lib.hid ((HX2.out.kept gr3 (by simp; omega)).kept gr4 (by simp; omega))
              have HB4 := Lib.hid ((HB2.out.setCell (p := ⟨g1, S, none⟩) (by exact Nat.le_of_lt hwg1) (.int .i64 ((C : Int) + V1))).setCell (p := ⟨g2, S, none⟩) (by exact Nat.le_of_lt hwg2) (.int .i64 (V2 : Int)))
              have HV4 := Lib.hid ((HV2.out.kept gr3 (own_ne (fun k hk => (HV2.out.lt k hk).1) hb1s.1)).kept gr4 (own_ne (fun k hk => (HV2.out.lt k hk).1) hb1s.2))
              have HN4 := Lib.hid (arIn_both HN.out hS (HUE.out.trans HUU.out))
              have zms3 := ((HM3.out.at0 HMl.out hP1).1 S hlt)
              have fms3 := ((HM3.out.at0 HMl.out hP1).2 S)
              clear o3 o4 gr3 gr4 hcm hfm HF2 HM2 HV2 HX2 HB2 HM3
              rcases h1 with h1 | h1
              · have d1 : decide (T1 < 0) = true := by simpa using h1
                go_wp2
                go_roundw
                case rel => exact ⟨k + 1, _, _, by omega, by go_num, HN4, HF4, HM4, HV4, HX4, HB4⟩
                case measure => simp [intOf]; omega
              · rcases d0 : decide (T1 < 0) with _ | _
                · have d1 : decide ((C : Int) + V1 < T1) = true := by simpa using h1
                  go_wp2
                  go_roundw
                  case rel => exact ⟨k + 1, _, _, by omega, by go_num, HN4, HF4, HM4, HV4, HX4, HB4⟩
                  case measure => simp [intOf]; omega
                · go_wp2
                  go_roundw
                  case rel => exact ⟨k + 1, _, _, by omega, by go_num, HN4, HF4, HM4, HV4, HX4, HB4⟩
                  case measure => simp [intOf]; omega
            · as_aux_lemma =>
              have h1a : ¬ T1 < 0 := fun h => h1 (.inl h)
              have h1b : ¬ (C : Int) + V1 < T1 := fun h => h1 (.inr h)
              have d1 : decide (T1 < 0) = false := by simpa using h1a
              have d2 : decide ((C : Int) + V1 < T1) = false := by simpa using h1b
              by_cases h2 : (C : Int) + V1 = T1
              · as_aux_lemma =>
                have HUU : Hid (U = (T1, T2 + V2)) := by unfold Hid; exact HST.out.2.1 h1 h2
                have d3 : ((C : Int) + V1 == T1) = true := by simpa using h2
                have zmr := hcm R (by omega)
                rw [hvm] at zmr
                have zms := hcm S hlt
                rw [hms] at zms
                go_wp2_with fail
                have c0 := cell_regrown zmr
                have c1 := cell_regrown zms
                refine wp_region_below_tail 10 (by kernel_rfl) (by kernel_rfl) ?_
                simp only [List.take_succ_cons, List.take_zero, List.drop_succ_cons, List.drop_zero]
                repeat (go_big_quiet_step (first | (with_reducible fail)))
                refine wpQuiet_nil ?_
                intro wq hbq0
                have hbq := Lib.hid hbq0
                clear hbq0
                clear c0 c1
                have HM3 := Lib.hid (HM2.out.below hbq.out)
                have zms3 := ((HM3.out.at0 HMl.out hP1).1 S hlt)
                have fms3 := ((HM3.out.at0 HMl.out hP1).2 S)
                obtain ⟨o4, gr4⟩ := HM3.out.set_ HMl.out S ((T2 + V2 : Nat) : Int)
                have HF4 := Lib.hid ((HF2.out.below hbq.out).kept gr4 (by right; simp [Value.ownBlock]; exact hg12))
                have HM4 := Lib.hid o4
                have HX4 := Lib.hid ((HX2.out.below hbq.out).kept gr4 (by simp; omega))
                have HB4 := Lib.hid ((Below.then HB2.out hbq.out).setCell (p := ⟨g2, S, none⟩) (by exact Nat.le_of_lt hwg2) (.int .i64 ((T2 + V2 : Nat) : Int)))
                have HV4 := Lib.hid ((HV2.out.below hbq.out).kept gr4 (own_ne (fun k hk => (HV2.out.lt k hk).1) hb1s.2))
                have HN4 := Lib.hid (arIn_more HN.out hS (by rw [HTE.out]; exact HUE.out.trans HUU.out))
                have hsum : wrap64 ((T2 : Int) + (V2 : Int)) = ((T2 + V2 : Nat) : Int) := by rw [IntWalk.wrap64_in _ (by omega)]; omega
                clear o4 gr4 hcm hfm HF2 HM2 HV2 HX2 HB2 HM3
                go_wp2
                go_roundw
                case rel => exact ⟨k + 1, _, _, by omega, by go_num, HN4, HF4, HM4, HV4, HX4, HB4⟩
                case measure => simp [intOf]; omega
              · as_aux_lemma =>
                have HUU : Hid (U = (T1, T2)) := by unfold Hid; exact HST.out.2.2 h1 h2
                have d3 : ((C : Int) + V1 == T1) = false := by simpa using h2
                have HN4 := Lib.hid (arIn_keep HN.out (by rw [HTE.out]; exact HUE.out.trans HUU.out))
                go_wp2
                go_roundw
                case rel => exact ⟨k + 1, F, M, by omega, by go_num, HN4, HF2, HM2, HV2, HX2, HB2⟩
                case measure => simp [intOf]; omega
          · as_aux_lemma =>
            obtain rfl : k = m := by omega
            have HD := Lib.hid (arIn_done (by rw [HLN.out]; exact HN.out) hS (by omega))
            go_wp2
            go_roundw
            case rel => exact ⟨S + 1, F, M, by omega, by omega, by go_num, HD, HF, HM, HX, HB⟩
            case measure => simp [intOf]; omega
      · as_aux_lemma =>
        obtain rfl : S = p := by omega
        go_wp2
        go_ret2
        exact ⟨g1, g2, F, M, rfl, HA.out, HF.out, HM.out, HB.out⟩
end Go.Proofs.YthoodjjjklbggaaGreatDoor

namespace Go.Proofs.YthoodjjjklbggaaGreatDoor
open Go.RowKit Go.Sort
set_option maxRecDepth 100000
variable {n : Nat} {sl ov : Value} {xs : List Int} {w : World} {l : List Nat}
theorem arIs_top {r : Nat → Nat → Bool} {n : Nat} {F M : List Int} (hr : ∀ a, r a a = false) (h : arIs r n (2 ^ n) F M) : F.getD (2 ^ n - 1) 0 = (fewN r n : Int) ∧ M.getD (2 ^ n - 1) 0 = (manyN r n : Int) := by
  have := h.2.2.1 (2 ^ n - 1) (full_ltN n)
  rw [(few_law hr).1] at this
  exact this
set_option maxHeartbeats 1000000 in
theorem cFew (hp : tourP n xs) (h : Rd w sl xs) : Calls Tryz.prog 15 #[.agg #[.int .i64 n, sl]] w fun e w' => e = .returned (.int .i64 (fewN (bt xs) n : Nat)) ∧ Below w.heap.size w w' := by
  have HR := Lib.hid h
  obtain ⟨A, cA, rfl, -, -, -⟩ := h
  rw [tour_len hp] at *
  have HP := Lib.hid hp
  have h8 : n ≤ 8 := by have := hp.1; omega
  have hfull := full_nat n h8
  have hlt := full_ltN n
  have hle := pow_le h8
  have HIR := Lib.hid (bt_irr hp)
  clear hp
  go_enter Tryz.func15, Tryz.ntmps15
  go_wp2_with fail
  have b0 := below_alloc1 w (.cells #[.int .i64 n, .slice A n cA] 25)
  have x0 := TBox.new w n (.slice A n cA) 25
  generalize w.alloc (.cells #[.int .i64 n, .slice A n cA] 25) = w0 at *
  have HX0 := Lib.hid x0
  have HB0 := Lib.hid b0
  clear x0 b0
  have y0_0 := HX0.out.1
  have y1_0 := HX0.out.2
  go_wp2_with fail
  refine (implTourOk n _ xs _ (HR.out.below HB0.out)).mono ?_
  rintro e w1 ⟨rfl, hb1⟩
  rw [tourB_true.2 HP.out]
  have HB1 := Lib.hid (Below.then HB0.out hb1)
  have HX1 := Lib.hid (HX0.out.below hb1)
  clear hb1 y0_0 y1_0 HX0 HB0
  have y0_1 := HX1.out.1
  have y1_1 := HX1.out.2
  go_wp2_with fail
  refine (cArr HP.out (HR.out.below HB1.out)).mono ?_
  rintro e w2 ⟨g1, g2, F, M, rfl, hA, hF, hM, hb2⟩
  have HB2 := Lib.hid (Below.then HB1.out hb2)
  have HX2 := Lib.hid (HX1.out.below hb2)
  have ht := (arIs_top HIR.out hA).1
  have zf := (hF.at0 hA.1 (Nat.two_pow_pos n)).1 _ hlt
  rw [ht] at zf
  clear hb2 y0_1 y1_1 HX1 hF hM hA ht
  have y0_2 := HX2.out.1
  have y1_2 := HX2.out.2
  generalize hpe : 2 ^ n - 1 = q at *
  generalize hpe2 : 2 ^ n = p at *
  clear hpe hpe2
  go_wp2
  go_ret
  exact ⟨rfl, HB2.out⟩
end Go.Proofs.YthoodjjjklbggaaGreatDoor

