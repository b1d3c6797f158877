/- Texts put together: TgY, ShSort, SortQ, TgR. -/
import Derived.Test.YthoodjjjklbggaaGreatDoorMTriangles24
import Derived.Shelf.Sort.Plain
import Derived.Ground.Names2Prog
import Derived.Test.YthoodjjjklbggaaGreatDoorMTriangles01
import Derived.Test.YthoodjjjklbggaaGreatDoorMTriangles10
import Derived.Test.YthoodjjjklbggaaGreatDoorMTriangles02
import Derived.Test.YthoodjjjklbggaaGreatDoorMTriangles15
import Derived.Test.YthoodjjjklbggaaGreatDoorMTriangles19
import Derived.Test.YthoodjjjklbggaaGreatDoorMTriangles21
import Derived.Test.YthoodjjjklbggaaGreatDoorMTriangles04
import Derived.Test.YthoodjjjklbggaaGreatDoorMTriangles14
import Derived.Test.YthoodjjjklbggaaGreatDoorMTriangles03
import Derived.Deep.RegionHeld3
import Derived.Deep.DeepCutAuto
namespace Go.Proofs.YthoodjjjklbggaaGreatDoor
open Go.RowKit Go.Sort
set_option maxRecDepth 100000
variable {n : Nat} {xs ys : List Int} {sl sl2 : Value} {w : World}
set_option maxHeartbeats 4000000 in
theorem cTriSteps (hp : tourP n xs) (h : Rd w sl xs) (hp2 : tourP n ys) (h2 : Rd w sl2 ys) (h5 : n ≤ 5) (hsc : scL xs n = scL ys n) :
    Calls Tryz.prog 18 #[.agg #[.int .i64 n, sl], .agg #[.int .i64 n, sl2]] w fun e w' => e = .returned (.int .i64 (tD n ys xs : Nat)) ∧ Below w.heap.size w w' := by
  have HR := Lib.hid h
  have HR2 := Lib.hid h2
  have HP := Lib.hid hp
  have HP2 := Lib.hid hp2
  have HSC := Lib.hid hsc
  have H5 := Lib.hid h5
  obtain ⟨A, c, rfl, -, -, -⟩ := h
  obtain ⟨B, d, rfl, -, -, -⟩ := h2
  rw [tour_len hp] at *
  rw [tour_len hp2] at *
  clear hp hp2 hsc h5
  obtain ⟨D, hD⟩ : ∃ D, D = tD n ys xs := ⟨_, rfl⟩
  rw [← hD]
  have HD := Lib.hid hD
  clear hD
  go_enter Tryz.func18, Tryz.ntmps18
  have bx := (below_alloc1 w (.cells #[.int .i64 n, .slice A n c] 25)).alloc (by simp) (.cells #[.int .i64 n, .slice B n d] 25)
  have tx := (TBox.new w n (.slice A n c) 25).below (below_alloc1 _ (.cells #[.int .i64 n, .slice B n d] 25))
  have tx2 := TBox.new (w.alloc (.cells #[.int .i64 n, .slice A n c] 25)) n (.slice B n d) 25
  simp only [World.size_alloc] at tx2
  go_wp2_with fail
  generalize (w.alloc (.cells #[.int .i64 n, .slice A n c] 25)).alloc (.cells #[.int .i64 n, .slice B n d] 25) = w0 at *
  have HB0 := Lib.hid bx
  have HA0 := Lib.hid tx
  have HC0 := Lib.hid tx2
  clear bx tx tx2
  have y0 := HA0.out.1
  have y1 := HA0.out.2
  have x0 := HC0.out.1
  have x1 := HC0.out.2
  go_wp2_with fail
  refine (cTriWay HP.out (HR.out.below HB0.out) HP2.out (HR2.out.below HB0.out) H5.out HSC.out).mono ?_
  rintro e w1 ⟨v, rows, rfl, hr, hl, -, -, hb1⟩
  obtain ⟨C, q, rfl, -, -, -⟩ := hr
  rw [← HD.out] at hl
  subst hl
  have HB1 := Lib.hid (Below.then HB0.out hb1)
  clear hb1 y0 y1 x0 x1
  go_wp2
  go_ret
  exact ⟨rfl, HB1.out⟩
end Go.Proofs.YthoodjjjklbggaaGreatDoor

namespace Go.Proofs.YthoodjjjklbggaaGreatDoor
open Go.Shelf
def lays189_ren : Go.Shelf.Ren := ⟨fun | 189 => 44 | 125 => 72 | 257 => 71 | 128 => 91 | 129 => 92 | 294 => 82 | 295 => 83 | 296 => 84 | 297 => 85 | 298 => 86 | 299 => 87 | 216 => 88 | 300 => 89 | 301 => 90 | 328 => 103 | 329 => 104 | 330 => 105 | 331 => 106 | 332 => 107 | 215 => 76 | 343 => 112 | n => n, fun | 28 => 23 | 3 => 3 | 46 => 56 | 0 => 0 | 51 => 83 | 53 => 85 | 4 => 4 | 183 => 96 | 182 => 95 | 131 => 66 | 5 => 5 | 9 => 9 | 218 => 106 | 222 => 110 | 228 => 115 | 229 => 116 | n => n, fun | n => n⟩
theorem lays189 : Go.Proofs.Lays.n189 Tryz.prog lays189_ren := {
  mixed := by kernel_rfl
  f125 := Tryz.func72.trans (congrArg some (by kernel_rfl))
  f128 := Tryz.func91.trans (congrArg some (by kernel_rfl))
  f129 := Tryz.func92.trans (congrArg some (by kernel_rfl))
  f189 := Tryz.func44.trans (congrArg some (by kernel_rfl))
  f215 := Tryz.func76.trans (congrArg some (by kernel_rfl))
  f216 := Tryz.func88.trans (congrArg some (by kernel_rfl))
  f257 := Tryz.func71.trans (congrArg some (by kernel_rfl))
  f294 := Tryz.func82.trans (congrArg some (by kernel_rfl))
  f295 := Tryz.func83.trans (congrArg some (by kernel_rfl))
  f296 := Tryz.func84.trans (congrArg some (by kernel_rfl))
  f297 := Tryz.func85.trans (congrArg some (by kernel_rfl))
  f298 := Tryz.func86.trans (congrArg some (by kernel_rfl))
  f299 := Tryz.func87.trans (congrArg some (by kernel_rfl))
  f300 := Tryz.func89.trans (congrArg some (by kernel_rfl))
  f301 := Tryz.func90.trans (congrArg some (by kernel_rfl))
  f328 := Tryz.func103.trans (congrArg some (by kernel_rfl))
  f329 := Tryz.func104.trans (congrArg some (by kernel_rfl))
  f330 := Tryz.func105.trans (congrArg some (by kernel_rfl))
  f331 := Tryz.func106.trans (congrArg some (by kernel_rfl))
  f332 := Tryz.func107.trans (congrArg some (by kernel_rfl))
  f343 := Tryz.func112.trans (congrArg some (by kernel_rfl))
  t0 := Tryz.underlying0
  a0 := Tryz.isAgg0
  z0 := Tryz.sizeOf0
  v0 := Tryz.zeroValue0
  t3 := Tryz.underlying3
  a3 := Tryz.isAgg3
  z3 := Tryz.sizeOf3
  v3 := Tryz.zeroValue3
  t4 := Tryz.underlying4
  a4 := Tryz.isAgg4
  z4 := Tryz.sizeOf4
  v4 := Tryz.zeroValue4
  t5 := Tryz.underlying5
  a5 := Tryz.isAgg5
  z5 := Tryz.sizeOf5
  v5 := Tryz.zeroValue5
  t9 := Tryz.underlying9
  a9 := Tryz.isAgg9
  z9 := Tryz.sizeOf9
  v9 := Tryz.zeroValue9
  t28 := Tryz.underlying23
  a28 := Tryz.isAgg23
  z28 := Tryz.sizeOf23
  v28 := Tryz.zeroValue23
  t46 := Tryz.underlying56
  a46 := Tryz.isAgg56
  z46 := Tryz.sizeOf56
  v46 := Tryz.zeroValue56
  t51 := Tryz.underlying83
  a51 := Tryz.isAgg83
  z51 := Tryz.sizeOf83
  v51 := Tryz.zeroValue83
  t53 := Tryz.underlying85
  a53 := Tryz.isAgg85
  z53 := Tryz.sizeOf85
  v53 := Tryz.zeroValue85
  t131 := Tryz.underlying66
  a131 := Tryz.isAgg66
  z131 := Tryz.sizeOf66
  v131 := Tryz.zeroValue66
  t182 := Tryz.underlying95
  a182 := Tryz.isAgg95
  z182 := Tryz.sizeOf95
  v182 := Tryz.zeroValue95
  t183 := Tryz.underlying96
  a183 := Tryz.isAgg96
  z183 := Tryz.sizeOf96
  v183 := Tryz.zeroValue96
  t218 := Tryz.underlying106
  a218 := Tryz.isAgg106
  z218 := Tryz.sizeOf106
  v218 := Tryz.zeroValue106
  t222 := Tryz.underlying110
  a222 := Tryz.isAgg110
  z222 := Tryz.sizeOf110
  v222 := Tryz.zeroValue110
  t228 := Tryz.underlying115
  a228 := Tryz.isAgg115
  z228 := Tryz.sizeOf115
  v228 := Tryz.zeroValue115
  t229 := Tryz.underlying116
  a229 := Tryz.isAgg116
  z229 := Tryz.sizeOf116
  v229 := Tryz.zeroValue116 }
open Go.Sort Go.RowKit in
theorem slices_Sort_int (blk off cap : Nat) (zs : List Int) (w : World) (hH : Holds (Value.int .i64) w blk off zs.toArray) (hblk : blk < w.heap.size) (hsz : zs.length < 4611686018427387904) :
    Calls Tryz.prog 44 #[.slice (some ⟨blk, off, none⟩) zs.length cap] w fun e w' =>
      e = .returned (.tuple #[]) ∧ ∃ n os, w' = grow (putRow (Value.int .i64) (Sort.ahead w n) blk off (zs.mergeSort fun x y => decide (x ≤ y)).toArray) os := Any.slices_Sort_int lays189 blk off cap zs w hH hblk hsz
end Go.Proofs.YthoodjjjklbggaaGreatDoor

namespace Go.Proofs.YthoodjjjklbggaaGreatDoor
open Go.RowKit Go.Sort
set_option maxRecDepth 100000
def srtL (xs : List Int) : List Int := xs.mergeSort fun x y => decide (x ≤ y)
theorem srtL_perm (xs : List Int) : (srtL xs).Perm xs := List.mergeSort_perm xs _
theorem srtL_sorted (xs : List Int) : (srtL xs).Pairwise (· ≤ ·) := by
  have := List.pairwise_mergeSort (le := fun x y : Int => decide (x ≤ y)) (fun a b c h1 h2 => by
    rw [decide_eq_true_eq] at *; omega) (fun a b => by
    rw [Bool.or_eq_true, decide_eq_true_eq, decide_eq_true_eq]; omega) xs
  exact this.imp fun h => by simpa using h
theorem toA_get (xs : List Int) {j : Nat} (_hj : j < xs.length) : xs.toArray[j]! = xs.getD j 0 := by
  simp [List.getD_eq_getElem?_getD, getElem!_def]
  cases xs[j]? <;> rfl
theorem sort_own (base g n c : Nat) (xs : List Int) (w : World) (h : Own w base (.slice (some ⟨g, 0, none⟩) n c) xs) (hl : xs.length = n) (h1 : 0 < n) (hn : n ≤ 1000) :
    Calls Tryz.prog 44 #[.slice (some ⟨g, 0, none⟩) n c] w fun e w' => e = .returned (.tuple #[]) ∧ Rd w' (.slice (some ⟨g, 0, none⟩) n c) (srtL xs) ∧ ∀ (B : Nat) (a : World), B ≤ base → Below B a w → Below B a w' := by
  obtain ⟨hx, hf⟩ := h.at0 hl h1
  have hlt := h.lt g rfl
  obtain ⟨A', c', e, hnc, hm, -⟩ := h.rd
  injection e with _ _ e3
  subst e3
  have hH : Holds (Value.int .i64) w g 0 xs.toArray := fun j hj => by
    have hj' : j < xs.length := by simpa using hj
    rw [Nat.zero_add, toA_get xs hj']
    exact ⟨hx j (by omega), hf j⟩
  have := slices_Sort_int g 0 c xs w hH hlt.2 (by omega)
  rw [hl] at this
  refine this.mono ?_
  rintro e w' ⟨rfl, m, os, rfl⟩
  have hsl : (srtL xs).length = n := by rw [(srtL_perm xs).length_eq, hl]
  refine ⟨rfl, ⟨_, c, by rw [hsl], by rw [hsl]; omega, hm, fun _ => ⟨g, 0, rfl, ?_, fun k hk => ?_⟩⟩, fun B a hB hb => ?_⟩
  · rw [size_grow]
    have hs : (putRow (Value.int .i64) (Sort.ahead w m) g 0 (srtL xs).toArray).heap.size = w.heap.size := by
      unfold putRow mapBlock
      simp [Sort.ahead]
    show g < (putRow (Value.int .i64) (Sort.ahead w m) g 0 (srtL xs).toArray).heap.size + os.size
    rw [hs]; omega
  · have hs : (putRow (Value.int .i64) (Sort.ahead w m) g 0 (srtL xs).toArray).heap.size = w.heap.size := by
      unfold putRow mapBlock
      simp [Sort.ahead]
    have hH2 : Holds (Value.int .i64) (Sort.ahead w m) g 0 xs.toArray := hH
    have h2 := cell?_putRow (Value.int .i64) (Sort.ahead w m) g 0 xs.toArray (srtL xs).toArray hH2 (by simp [hsl, hl]) k (by simpa using hk)
    rw [toA_get _ hk] at h2
    have h3 := cell?_grow (putRow (Value.int .i64) (Sort.ahead w m) g 0 (srtL xs).toArray) os ⟨g, 0 + k, none⟩ (by rw [hs]; exact hlt.2)
    exact h3.trans h2
  · have hs : (putRow (Value.int .i64) (Sort.ahead w m) g 0 (srtL xs).toArray).heap.size = w.heap.size := by
      unfold putRow mapBlock
      simp [Sort.ahead]
    have hge : B ≤ g := Nat.le_trans hB hlt.1
    refine ⟨hb.os, hb.tape, hb.output, ?_, fun k hk => ?_⟩
    · have := hb.size
      rw [size_grow]
      show a.heap.size ≤ (putRow (Value.int .i64) (Sort.ahead w m) g 0 (srtL xs).toArray).heap.size + os.size
      rw [hs]; omega
    · rw [← hb.block k hk]
      show ((putRow (Value.int .i64) (Sort.ahead w m) g 0 (srtL xs).toArray).heap ++ os)[k]? = w.heap[k]?
      rw [Array.getElem?_append_left (by rw [hs]; omega)]
      unfold putRow mapBlock
      have hkg : g ≠ k := by omega
      simp [Array.getElem?_modify, hkg, Sort.ahead]
variable {n : Nat} {sl : Value} {xs : List Int} {w : World}
end Go.Proofs.YthoodjjjklbggaaGreatDoor

namespace Go.Proofs.YthoodjjjklbggaaGreatDoor
open Go.RowKit Go.Sort
set_option maxRecDepth 100000
/-! sorting, plain -/
theorem insR_perm (bef : Int → Int → Bool) (S : List Int) (x : Int) : (insR bef S x).Perm (S ++ [x]) := by
  unfold insR
  have h1 : (S.take (posR bef x S S.length) ++ x :: S.drop (posR bef x S S.length)).Perm (x :: (S.take (posR bef x S S.length) ++ S.drop (posR bef x S S.length))) := List.perm_middle
  rw [List.take_append_drop] at h1
  exact h1.trans (List.perm_append_singleton x S).symm
theorem foldl_perm (bef : Int → Int → Bool) : ∀ (L S : List Int), (L.foldl (insR bef) S).Perm (S ++ L)
  | [], S => by simp
  | x :: L, S => by
    rw [List.foldl_cons]
    refine (foldl_perm bef L _).trans ?_
    have := (insR_perm bef S x).append_right L
    simpa using this
theorem sortR_perm (bef : Int → Int → Bool) (L : List Int) : (sortR bef L).Perm L := by
  have := foldl_perm bef L []
  simpa [sortR] using this
theorem srt_eq (L : List Int) : srtL L = sortR (fun x y => decide (x < y)) L := by
  have h1 := sort_sorted (key := fun x => -x) (bef := fun x y => decide (x < y)) (fun x y => by rw [decide_eq_decide]; omega) L L.length (Nat.le_refl _)
  rw [List.take_length] at h1
  refine List.Perm.eq_of_pairwise (le := (· ≤ ·)) (fun a b _ _ h1 h2 => by omega) (srtL_sorted L) (h1.imp fun {a b} h => by omega) ((srtL_perm L).trans (sortR_perm _ L).symm)
theorem rzQ_nI (S : List Int) (P : List Nat) : nI (rzQ S P) = sortR (rzBef S) (nI P) := by
  unfold rzQ nI
  rw [List.map_map]
  have : ∀ x ∈ sortR (rzBef S) (nI P), ((fun (a : Nat) => (a : Int)) ∘ Int.toNat) x = x := fun x hx => by
    have h1 := (sortR_perm (rzBef S) (nI P)).mem_iff.1 hx
    unfold nI at h1
    rw [List.mem_map] at h1
    obtain ⟨a, -, rfl⟩ := h1
    rfl
  exact (List.map_congr_left this).trans (List.map_id _)
theorem rzQ_len (S : List Int) (P : List Nat) : (rzQ S P).length = P.length := by
  unfold rzQ
  rw [List.length_map, (sortR_perm _ _).length_eq, nI, List.length_map]
theorem rzQ_lt {S : List Int} {P : List Nat} {n : Nat} (h : ∀ x ∈ P, x < n) : ∀ x ∈ rzQ S P, x < n := fun x hx => by
  unfold rzQ at hx
  rw [List.mem_map] at hx
  obtain ⟨y, hy, rfl⟩ := hx
  have h1 := (sortR_perm (rzBef S) (nI P)).mem_iff.1 hy
  unfold nI at h1
  rw [List.mem_map] at h1
  obtain ⟨a, ha, rfl⟩ := h1
  exact h a ha
/-- the comparison of two players by their scores -/
def rzC (S : List Int) (x y : Int) : Int := orI [cmpI (S.getD x.toNat 0) (S.getD y.toNat 0), cmpI x y]
theorem rzC_bef (S : List Int) : (fun x y => decide (rzC S x y < 0)) = rzBef S := by
  funext x y
  unfold rzC rzBef
  generalize S.getD x.toNat 0 = a
  generalize S.getD y.toNat 0 = b
  have h : orI [cmpI a b, cmpI x y] = if cmpI a b = 0 then cmpI x y else cmpI a b := by
    unfold orI
    by_cases h1 : cmpI a b = 0
    · by_cases h2 : cmpI x y = 0
      · simp [h1, h2]
      · simp [h1, h2]
    · simp [h1]
  rw [h, decide_eq_decide]
  unfold cmpI
  repeat' split
  all_goals omega
set_option maxHeartbeats 1000000 in
theorem rz1_any (W : World) (a b n sb gc cc : Nat) (S : List Int) (hs : W.cell? ⟨sb, 0, none⟩ = some (.slice (some ⟨gc, 0, none⟩) n cc)) (hc : n ≤ cc) (hcc : cc ≤ maxLen) (hx : ∀ k, k < n → W.cell? ⟨gc, k, none⟩ = some (.int .i64 (S.getD k 0))) (ha : a < n) (hb : b < n) :
    Calls Tryz.prog 47 #[.int .i64 a, .int .i64 b, .pointer (some ⟨sb, 0, none⟩)] W fun e w' => e = .returned (.int .i64 (rzC S a b)) ∧ Below W.heap.size W w' := by
  have za := hx a ha
  have zb := hx b hb
  have HV : Hid (rzC S a b = orI [cmpI (S.getD a 0) (S.getD b 0), cmpI a b]) := rfl
  generalize S.getD a 0 = x at *
  generalize S.getD b 0 = y at *
  unfold maxLen at hcc
  clear hx
  go_enter Tryz.func47, Tryz.ntmps47
  go_wp2
  go_still_tail 12, (by kernel_rfl)
  still_call ((compare_any _ _ _).mono fun e w' h => ⟨h.1, h.2.symm⟩)
  repeat still_step
  still_call ((compare_any _ _ _).mono fun e w' h => ⟨h.1, h.2.symm⟩)
  repeat still_step
  refine wpStill_nil ?_
  have hd : Rd ((W.drew).alloc (.cells #[.int .i64 (cmpI x y), .int .i64 (cmpI a b)] 3)) (.slice (some ⟨W.drew.heap.size, 0, none⟩) 2 2) [cmpI x y, cmpI a b] := (Own.lit W.drew 0 [cmpI x y, cmpI a b] (Nat.zero_le _) (by simp)).rd
  have HD := Lib.hid hd
  have b2 : Below W.heap.size W ((W.drew).alloc (.cells #[.int .i64 (cmpI x y), .int .i64 (cmpI a b)] 3)) := (Below.refl W.heap.size W).drew.alloc (Nat.le_refl _) _
  have HB2 := Lib.hid b2
  clear hd b2
  change wpList _ _ _ _ _ W.drew
  go_wp2_with fail
  refine (cmpOr_any _ [cmpI x y, cmpI a b] _ HD.out).mono ?_
  rintro e1 w2 ⟨rfl, hw⟩
  have hb2 : Below W.heap.size W w2 := by rw [← hw]; exact HB2.out
  have HB := Lib.hid hb2
  clear hw hb2
  go_wp2
  go_ret
  exact ⟨ret_int HV.out.symm, HB.out⟩
theorem enters_rz1 : Enters 47 := fun _ _ => by kernel_rfl
/-- what RealizeScores has made: the wins, the tour's box, the scores and their box, the result's box -/
structure RzS (w W : World) (gl gu gc sb n cc : Nat) (N : List Nat) (S : List Int) : Prop where
  own : Own W w.heap.size (.slice (some ⟨gl, 0, none⟩) n n) (nI N)
  box : BoxF W gu n (.slice (some ⟨gl, 0, none⟩) n n)
  sc : Own W w.heap.size (.slice (some ⟨gc, 0, none⟩) n cc) S
  sbx : W.cell? ⟨sb, 0, none⟩ = some (.slice (some ⟨gc, 0, none⟩) n cc)
  res : BoxF W w.heap.size 0 (.slice none 0 0)
  below : Below w.heap.size w W
theorem RzS.next {w W W' : World} {gl gu gc sb n cc : Nat} {N : List Nat} {S : List Int} (h : RzS w W gl gu gc sb n cc N S) (hb : Below W.heap.size W W') : RzS w W' gl gu gc sb n cc N S :=
  ⟨h.own.below hb, h.box.below hb, h.sc.below hb, (hb.cell (p := ⟨sb, 0, none⟩) (World.block_lt_of_cell? _ _ h.sbx)).trans h.sbx, h.res.below hb, Below.then h.below hb⟩
/-- another block is written -/
theorem RzS.grown {w W W' : World} {gl gu gc sb n cc r : Nat} {N : List Nat} {S : List Int} (h : RzS w W gl gu gc sb n cc N S) (hg : W.grownBy W' (some r)) (h1 : r ≠ gl) (h2 : r ≠ gu) (h3 : r ≠ gc) (h4 : r ≠ sb) (h5 : w.heap.size < r) : RzS w W' gl gu gc sb n cc N S :=
  ⟨h.own.kept hg (.inr (show some gl ≠ some r by simp; omega)), h.box.kept hg (by simp; omega), h.sc.kept hg (.inr (show some gc ≠ some r by simp; omega)), (World.cell?_of_block (w := W) (hg.block sb (World.block_lt_of_cell? _ _ h.sbx) (by simp; omega))).trans h.sbx, h.res.kept hg (by simp; omega), h.below.grown hg h.below.size (fun k e => by injection e with e; omega)⟩
theorem nI_set (N : List Nat) (i x : Nat) : nI (N.set i x) = (nI N).set i (x : Int) := by unfold nI; rw [List.map_set]
theorem RzS.win {w W : World} {gl gu gc sb n cc : Nat} {N : List Nat} {S : List Int} (h : RzS w W gl gu gc sb n cc N S) (hl : N.length = n) (h1 : gl ≠ gu) (h2 : gl ≠ gc) (h3 : gl ≠ sb) (h4 : w.heap.size < gl) (i x : Nat) : RzS w (W.setCell ⟨gl, i, none⟩ (.int .i64 x)) gl gu gc sb n cc (N.set i x) S :=
  have hg := setCell_grown W ⟨gl, i, none⟩ (.int .i64 x)
  ⟨by rw [nI_set]; exact (h.own.set_ (by rw [nI_len]; exact hl) i x).1, h.box.kept hg (by simp; omega), h.sc.kept hg (.inr (show some gc ≠ some gl by simp; omega)), (World.cell?_of_block (w := W) (hg.block sb (World.block_lt_of_cell? _ _ h.sbx) (by simp; omega))).trans h.sbx, h.res.kept hg (by simp; omega), h.below.grown hg h.below.size (fun k e => by injection e with e; simp only at e; omega)⟩
theorem RzS.score {w W : World} {gl gu gc sb n cc : Nat} {N : List Nat} {S : List Int} (h : RzS w W gl gu gc sb n cc N S) (hl : S.length = n) (h1 : gc ≠ gu) (h2 : gl ≠ gc) (h3 : gc ≠ sb) (h4 : w.heap.size < gc) (i : Nat) (x : Int) : RzS w (W.setCell ⟨gc, i, none⟩ (.int .i64 x)) gl gu gc sb n cc N (S.set i x) :=
  have hg := setCell_grown W ⟨gc, i, none⟩ (.int .i64 x)
  ⟨h.own.kept hg (.inr (show some gl ≠ some gc by simp; omega)), h.box.kept hg (by simp; omega), (h.sc.set_ hl i x).1, (World.cell?_of_block (w := W) (hg.block sb (World.block_lt_of_cell? _ _ h.sbx) (by simp; omega))).trans h.sbx, h.res.kept hg (by simp; omega), h.below.grown hg h.below.size (fun k e => by injection e with e; simp only at e; omega)⟩
end Go.Proofs.YthoodjjjklbggaaGreatDoor

