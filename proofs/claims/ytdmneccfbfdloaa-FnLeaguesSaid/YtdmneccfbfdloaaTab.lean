/- FnExactTableOf: indices, cmp.Or, the comparison. -/
import Derived.Test.YtdmneccfbfdloaaPts
import Derived.Test.YtdmneccfbfdloaaGoals
import Derived.Test.YtdmneccfbfdloaaSortI
import Derived.Test.YtdmneccfbfdloaaRep
import Derived.Test.YtdmneccfbfdloaaIdx
import Derived.Deep.RegionHeld3
namespace Go.Proofs.Ytdmneccfbfdloaa
open Go.RowKit Go.Sort
set_option maxRecDepth 100000

/-- the comparison of two clubs -/
def tabC (rs : List R4) (n : Nat) (a b : Int) : Int := orI [(ptsLK rs n).getD b.toNat 0 - (ptsLK rs n).getD a.toNat 0, (madeN rs b - agN rs b) - (madeN rs a - agN rs a), madeN rs b - madeN rs a]
noncomputable def tabL (s : Int) (rs : List R4) : List Int := if leagueB s rs = true then sortR (fun a b => decide (tabC rs s.toNat a b < 0)) (idxL s.toNat) else []
set_option maxHeartbeats 2000000 in
theorem tab1_any (n : Nat) (sl : Value) (rs : List R4) (g2 g3 gp cp a b : Nat) (W : World) (hv : leagueB (n : Int) rs = true) (h : RdR W sl rs) (t2 : TBox W g2 n sl) (c3 : W.cell? ⟨g3, 0, none⟩ = some (.slice (some ⟨gp, 0, none⟩) n cp)) (hcp : cp ≤ maxLen) (hncp : n ≤ cp)
    (hp : ∀ k, k < n → W.cell? ⟨gp, k, none⟩ = some (.int .i64 ((ptsLK rs n).getD k 0))) (ha : a < n) (hb : b < n) :
    Calls Try.prog 46 #[.int .i64 a, .int .i64 b, .pointer (some ⟨g2, 0, none⟩), .pointer (some ⟨g3, 0, none⟩)] W fun e w' => e = .returned (.int .i64 (tabC rs n a b)) ∧ Below W.heap.size W w' := by
  have HR := Lib.hid h
  have HT := Lib.hid t2
  obtain ⟨A, c, rfl, -, hm, -⟩ := h
  unfold maxLen at hm hcp
  have hF : Hid (tabC rs n a b = orI [(ptsLK rs n).getD b 0 - (ptsLK rs n).getD a 0, (madeN rs b - agN rs b) - (madeN rs a - agN rs a), madeN rs b - madeN rs a]) := rfl
  have hn8 : n ≤ 8 := by have := (leagueB_true.1 hv).1; omega
  have h60 := (leagueB_true.1 hv).2.1
  have ea := ptsLK_getD rs n a ha
  have eb := ptsLK_getD rs n b hb
  have ba := ptsK_bd rs (a : Nat) rs.length (Nat.le_refl _)
  have bb := ptsK_bd rs (b : Nat) rs.length (Nat.le_refl _)
  rw [List.take_length] at ba bb
  rw [← ea] at ba
  rw [← eb] at bb
  clear ea eb
  have pa := hp a ha
  have pb := hp b hb
  have y0 := t2.1
  have y1 := t2.2
  have HPA := Lib.hid pa
  have HPB := Lib.hid pb
  have HC3 := Lib.hid c3
  clear hp t2 c3 pa pb
  have hGB : ∀ r ∈ rs, (0 ≤ r.2.2.1 ∧ r.2.2.1 ≤ 99) ∧ 0 ≤ r.2.2.2 ∧ r.2.2.2 ≤ 99 := fun r hr => by
    have := resB_true.1 ((leagueB_true.1 hv).2.2 r hr)
    exact ⟨this.2.2.2.1, this.2.2.2.2⟩
  have MA := goals_bd (c := (a : Int)) hGB rs.length (Nat.le_refl _)
  have MB := goals_bd (c := (b : Int)) hGB rs.length (Nat.le_refl _)
  rw [List.take_length] at MA MB
  go_enter Try.func46, Try.ntmps46
  go_wp2_with fail
  refine (goals_any n (.slice A rs.length c) rs a _ HR.out hv).mono ?_
  rintro e w1 ⟨rfl, hb1⟩
  have HT1 := Lib.hid (HT.out.below hb1)
  have HB1 := Lib.hid hb1
  clear hb1 y0 y1
  have y0 := HT1.out.1
  have y1 := HT1.out.2
  go_wp2_with fail
  refine (goals_any n (.slice A rs.length c) rs b _ (HR.out.below HB1.out) hv).mono ?_
  rintro e w2 ⟨rfl, hb2⟩
  have HB2 := Lib.hid (Below.then HB1.out hb2)
  clear hb2 y0 y1
  have z3 := (HB2.out.cell (p := ⟨g3, 0, none⟩) (World.block_lt_of_cell? _ _ HC3.out)).trans HC3.out
  have za := (HB2.out.cell (p := ⟨gp, a, none⟩) (World.block_lt_of_cell? _ _ HPA.out)).trans HPA.out
  have zb := (HB2.out.cell (p := ⟨gp, b, none⟩) (World.block_lt_of_cell? _ _ HPB.out)).trans HPB.out
  generalize (ptsLK rs n).getD a 0 = p at *
  generalize (ptsLK rs n).getD b 0 = q at *
  generalize madeN rs a = ma at *
  generalize agN rs a = ga at *
  generalize madeN rs b = mb at *
  generalize agN rs b = gb at *
  have hr3 := Own.lit w2 w2.heap.size [q - p, (mb - gb) - (ma - ga), mb - ma] (Nat.le_refl _) (by simp)
  have HR3 : Hid (Rd (w2.alloc (.cells #[.int .i64 (q - p), .int .i64 ((mb - gb) - (ma - ga)), .int .i64 (mb - ma)] 3)).drew (.slice (some ⟨w2.heap.size, 0, none⟩) 3 3) [q - p, (mb - gb) - (ma - ga), mb - ma]) := hr3.rd
  have hbl := below_alloc1 w2 (.cells #[.int .i64 (q - p), .int .i64 ((mb - gb) - (ma - ga)), .int .i64 (mb - ma)] 3)
  have z3' := (hbl.cell (p := ⟨g3, 0, none⟩) (World.block_lt_of_cell? _ _ z3)).trans z3
  have za' := (hbl.cell (p := ⟨gp, a, none⟩) (World.block_lt_of_cell? _ _ za)).trans za
  have zb' := (hbl.cell (p := ⟨gp, b, none⟩) (World.block_lt_of_cell? _ _ zb)).trans zb
  have HBL : Hid (Below W.heap.size W (w2.alloc (.cells #[.int .i64 (q - p), .int .i64 ((mb - gb) - (ma - ga)), .int .i64 (mb - ma)] 3)).drew) := (let r := Below.then HB2.out hbl; ⟨r.os, r.tape, r.output, r.size, r.block⟩)
  have hw1 : IntKind.i64.wrap (q - p) = q - p := by rw [IntWalk.i64_left]; exact IntWalk.wrap64_in _ (by omega)
  have hw2 : IntKind.i64.wrap (mb - gb) = mb - gb := by rw [IntWalk.i64_left]; exact IntWalk.wrap64_in _ (by omega)
  have hw3 : IntKind.i64.wrap (ma - ga) = ma - ga := by rw [IntWalk.i64_left]; exact IntWalk.wrap64_in _ (by omega)
  have hw4 : IntKind.i64.wrap (mb - gb - (ma - ga)) = mb - gb - (ma - ga) := by rw [IntWalk.i64_left]; exact IntWalk.wrap64_in _ (by omega)
  have hw5 : IntKind.i64.wrap (mb - ma) = mb - ma := by rw [IntWalk.i64_left]; exact IntWalk.wrap64_in _ (by omega)
  clear hr3 hbl
  go_wp2_with fail
  go_region_held3 (fun W => W.cell? ⟨g3, 0, none⟩ = some (.slice (some ⟨gp, 0, none⟩) n cp) ∧ W.cell? ⟨gp, a, none⟩ = some (.int .i64 p) ∧ W.cell? ⟨gp, b, none⟩ = some (.int .i64 q))
    (first | exact ⟨z3, za, zb⟩ | exact ⟨z3', za', zb'⟩)
    (first
      | (go_at_call 48; refine (cmpOr_any _ _ _ HR3.out).mono ?_; rintro e wz ⟨rfl, rfl⟩))
  all_goals
    clear hw1 hw2 hw3 hw4 hw5
    go_wp2
    go_ret
    exact ⟨ret_int hF.out.symm, HBL.out⟩
end Go.Proofs.Ytdmneccfbfdloaa
