/- Texts put together: ShDel, DelO, ShIns, InsO, OrI, OrJ, OrK, TpC, ShSort, SortQ. -/
import Derived.Ground.Names2Prog
import Derived.Shelf.Slices.Clone
import Derived.Shelf.Slices.Delete
import Derived.Shelf.Slices.Cells
import Derived.Shelf.Slices.Empties
import Derived.Test.YtbkiedhaacapbaaGreatMTop01
import Derived.Test.YtbkiedhaacapbaaGreatMTop05
import Derived.Shelf.Spec.SlicesInsert
import Derived.Shelf.Spec.SlicesInsertGrow
import Derived.Test.YtbkiedhaacapbaaGreatMTop18
import Derived.Test.YtbkiedhaacapbaaGreatMTop16
import Derived.Deep.LoopGhost
import Derived.Test.YtbkiedhaacapbaaGreatMTop20
import Derived.Test.YtbkiedhaacapbaaGreatMTop02
import Derived.Shelf.Sort.Plain
namespace Go.Proofs.YtbkiedhaacapbaaGreat
open Go.Shelf
def laysNm215_ren : Go.Shelf.Ren := ⟨fun | 15 => 74 | n => n, fun | 22 => 23 | 3 => 3 | 4 => 4 | n => n, fun | n => n⟩
theorem laysNm215 : Go.Proofs.Lays2.n15 Tryz.prog laysNm215_ren := {
  mixed := by kernel_rfl
  f15 := Tryz.func74.trans (congrArg some (by kernel_rfl))
  t3 := Tryz.underlying3
  a3 := Tryz.isAgg3
  z3 := Tryz.sizeOf3
  v3 := Tryz.zeroValue3
  t4 := Tryz.underlying4
  a4 := Tryz.isAgg4
  z4 := Tryz.sizeOf4
  v4 := Tryz.zeroValue4
  t22 := Tryz.underlying23
  a22 := Tryz.isAgg23
  z22 := Tryz.sizeOf23
  v22 := Tryz.zeroValue23
  i3 := by kernel_rfl }
open Go.RowKit Go.Lib in
theorem slices_Clone_int (b off n c : Nat) (zs : List Int) (w : World) (hz : n ≤ zs.length) (hbig : n * 8 ≤ 140737488355328) (hc : ∀ j, j < zs.length → w.cell? ⟨b, off + j, none⟩ = some (.int .i64 (zs.getD j 0))) :
    Calls Tryz.prog 74 #[.slice (some ⟨b, off, none⟩) n c] w fun e w' => ∃ v', e = .returned v' ∧ w'.ownsRow w.heap.size 3 1 v' n ((zs.take n).map (Value.int .i64)) ∧ v' ≠ .slice none 0 0 ∧ Below w.heap.size w w' := Any.slices_Clone_int laysNm215 b off n c zs w hz hbig hc
open Go.RowKit Go.Lib in
theorem slices_Clone_int_nil (n c : Nat) (w : World) :
    Calls Tryz.prog 74 #[.slice none n c] w fun e w' => e = .returned (.slice none 0 0) ∧ w' = w := Any.slices_Clone_int_nil laysNm215 n c w
open Go.RowKit Go.Lib in
theorem slices_Clone_int_zero (a : Addr) (c : Nat) (w : World) :
    Calls Tryz.prog 74 #[.slice (some a) 0 c] w fun e w' => ∃ v', e = .returned v' ∧ w'.ownsRow w.heap.size 3 1 v' 0 [] ∧ v' ≠ .slice none 0 0 ∧ Below w.heap.size w w' := Any.slices_Clone_int_zero laysNm215 a c w
def laysNm223_ren : Go.Shelf.Ren := ⟨fun | 23 => 73 | n => n, fun | 22 => 23 | 3 => 3 | 4 => 4 | 0 => 0 | n => n, fun | n => n⟩
theorem laysNm223 : Go.Proofs.Lays2.n23 Tryz.prog laysNm223_ren := {
  mixed := by kernel_rfl
  f23 := Tryz.func73.trans (congrArg some (by kernel_rfl))
  t0 := Tryz.underlying0
  a0 := Tryz.isAgg0
  z0 := Tryz.sizeOf0
  v0 := Tryz.zeroValue0
  t3 := Tryz.underlying3
  a3 := Tryz.isAgg3
  z3 := Tryz.sizeOf3
  v3 := Tryz.zeroValue3
  t4 := Tryz.underlying4
  a4 := Tryz.isAgg4
  z4 := Tryz.sizeOf4
  v4 := Tryz.zeroValue4
  t22 := Tryz.underlying23
  a22 := Tryz.isAgg23
  z22 := Tryz.sizeOf23
  v22 := Tryz.zeroValue23
  i3 := by kernel_rfl }
open Go.RowKit Go.Lib Go.Sort in
theorem slices_Delete_int_arr (blk off cap i j : Nat) (d : Array Int) (w : World) (hH : Holds encI w blk off d) (hcap : d.size ≤ cap) (hm : cap ≤ 9223372036854775807) (hij : i ≤ j) (hj : j ≤ d.size) :
    Calls Tryz.prog 73 #[.slice (some ⟨blk, off, none⟩) d.size cap, .int .i64 i, .int .i64 j] w fun e w' => e = .returned (.slice (some ⟨blk, off, none⟩) (d.size - (j - i)) cap) ∧ ∃ q, w' = putRow encI (Sort.ahead w q) blk off (d.toList.take i ++ d.toList.drop j ++ List.replicate (j - i) 0).toArray := Any.slices_Delete_int_arr laysNm223 blk off cap i j d w hH hcap hm hij hj
open Go.RowKit Go.Lib Go.Sort in
theorem slices_Delete_int (blk off cap i j : Nat) (zs : List Int) (w : World) (hH : Holds (Value.int .i64) w blk off zs.toArray) (hcap : zs.length ≤ cap) (hm : cap ≤ 9223372036854775807) (hij : i ≤ j) (hj : j ≤ zs.length) :
    Calls Tryz.prog 73 #[.slice (some ⟨blk, off, none⟩) zs.length cap, .int .i64 i, .int .i64 j] w fun e w' => e = .returned (.slice (some ⟨blk, off, none⟩) (zs.length - (j - i)) cap) ∧ ∃ q, w' = putRow (Value.int .i64) (Sort.ahead w q) blk off (zs.take i ++ zs.drop j ++ List.replicate (j - i) 0).toArray := Any.slices_Delete_int laysNm223 blk off cap i j zs w hH hcap hm hij hj
open Go.RowKit Go.Lib Go.Sort in
theorem slices_Delete_int_cells (b off n c i j : Nat) (zs : List Int) (w : World) (hz : n ≤ zs.length) (hcap : n ≤ c) (hm : c ≤ 9223372036854775807) (hij : i ≤ j) (hj : j ≤ n) (hc : ∀ j, j < zs.length → w.cell? ⟨b, off + j, none⟩ = some (.int .i64 (zs.getD j 0))) (hf : ∀ j, j < n → w.frozen? ⟨b, off + j, none⟩ = false) :
    Calls Tryz.prog 73 #[.slice (some ⟨b, off, none⟩) n c, .int .i64 i, .int .i64 j] w fun e w' => e = .returned (.slice (some ⟨b, off, none⟩) (n - (j - i)) c) ∧ ∃ q, w' = (w.drewN q).setCells b off (((zs.take n).take i ++ (zs.take n).drop j ++ List.replicate (j - i) 0).map (Value.int .i64)) := Any.slices_Delete_int_cells laysNm223 b off n c i j zs w hz hcap hm hij hj hc hf
open Go.RowKit Go.Lib in
theorem slices_Delete_int_empty (a : Option Addr) (c : Nat) (w : World) :
    Calls Tryz.prog 73 #[.slice a 0 c, .int .i64 0, .int .i64 0] w fun e w' => e = .returned (.slice a 0 c) ∧ w' = w := Any.slices_Delete_int_empty laysNm223 a c w
end Go.Proofs.YtbkiedhaacapbaaGreat

namespace Go.Proofs.YtbkiedhaacapbaaGreat
open Go.RowKit Go.Sort
set_option maxRecDepth 100000
def putL (xs : List Int) : Nat → List Int → List Int
  | _, [] => xs
  | k, v :: r => putL (xs.set k v) (k + 1) r
theorem putL_eq : ∀ (vs : List Int) (k : Nat) (xs : List Int), k + vs.length ≤ xs.length → putL xs k vs = xs.take k ++ vs ++ xs.drop (k + vs.length) := by
  intro vs
  induction vs with
  | nil => intro k xs _; simp [putL]
  | cons v r ih =>
    intro k xs h
    simp only [List.length_cons] at h
    rw [putL, ih (k + 1) (xs.set k v) (by rw [List.length_set]; omega)]
    have hk : k < xs.length := by omega
    rw [List.take_succ_eq_append_getElem (by rw [List.length_set]; exact hk), List.getElem_set_self, List.take_set_of_le (Nat.le_refl k), List.drop_set_of_lt (by omega)]
    simp only [List.length_cons, List.append_assoc, List.cons_append, List.nil_append, show k + (r.length + 1) = k + 1 + r.length by omega]
theorem own_setCells {base g n c : Nat} : ∀ (vs : List Int) (k : Nat) (w : World) (xs : List Int), Own w base (.slice (some ⟨g, 0, none⟩) n c) xs → xs.length = n →
    Own (w.setCells g k (vs.map (Value.int .i64))) base (.slice (some ⟨g, 0, none⟩) n c) (putL xs k vs) ∧ ∀ (B : Nat) (a : World), B ≤ base → Below B a w → Below B a (w.setCells g k (vs.map (Value.int .i64))) := by
  intro vs
  induction vs with
  | nil => intro k w xs h _; exact ⟨h, fun _ _ _ h => h⟩
  | cons v r ih =>
    intro k w xs h hl
    obtain ⟨h1, h2⟩ := h.set_ hl k v
    obtain ⟨h3, h4⟩ := ih (k + 1) _ _ h1 (by rw [List.length_set]; exact hl)
    refine ⟨h3, fun B a hB hb => h4 B a hB ?_⟩
    have hg := (h.lt g rfl)
    exact hb.grown h2 (by omega) (fun q e => by injection e with e; omega)
theorem delete_own (base g n c i : Nat) (xs : List Int) (w : World) (h : Own w base (.slice (some ⟨g, 0, none⟩) n c) xs) (hl : xs.length = n) (hi : i < n) :
    Calls Tryz.prog 73 #[.slice (some ⟨g, 0, none⟩) n c, .int .i64 i, .int .i64 ((i + 1 : Nat) : Int)] w fun e w' => e = .returned (.slice (some ⟨g, 0, none⟩) (n - 1) c) ∧ Own w' base (.slice (some ⟨g, 0, none⟩) (n - 1) c) (xs.eraseIdx i) ∧ ∀ (B : Nat) (a : World), B ≤ base → Below B a w → Below B a w' := by
  obtain ⟨g', c', e, hbg, hm, hnc, hc, hf⟩ := h.at_ hl (by omega)
  injection e with e1 _ e2
  injection e1 with e1
  injection e1 with e1 _ _
  subst e1 e2
  unfold maxLen at hm
  refine (slices_Delete_int_cells g 0 n c i (i + 1) xs w (by omega) hnc (by omega) (by omega) (by omega) (fun j hj => by rw [Nat.zero_add]; exact hc j (by omega)) (fun j _ => hf _)).mono ?_
  rintro e w' ⟨rfl, q, rfl⟩
  have hL : (xs.take n).take i ++ (xs.take n).drop (i + 1) ++ List.replicate (i + 1 - i) 0 = xs.eraseIdx i ++ [0] := by
    have ex : xs.take n = xs := List.take_of_length_le (by omega)
    rw [ex, show i + 1 - i = 1 by omega, List.eraseIdx_eq_take_drop_succ]
    rfl
  rw [hL]
  have hlen : (xs.eraseIdx i ++ [0]).length = n := by rw [List.length_append, List.length_eraseIdx_of_lt (by omega), List.length_singleton]; omega
  obtain ⟨h1, h2⟩ := own_setCells (xs.eraseIdx i ++ [0]) 0 (w.drewN q) xs (h.drewN q) hl
  rw [putL_eq _ _ _ (by omega), List.take_zero, List.nil_append, hlen, Nat.zero_add, List.drop_of_length_le (by omega), List.append_nil] at h1
  refine ⟨by rw [show n - (i + 1 - i) = n - 1 by omega], ?_, fun B a hB hb => h2 B a hB (below_drewN hb q)⟩
  obtain ⟨m, rfl⟩ : ∃ m, n = m + 1 := ⟨n - 1, by omega⟩
  exact own_prefix (by rw [List.length_eraseIdx_of_lt (by omega)]; omega) h1
end Go.Proofs.YtbkiedhaacapbaaGreat

namespace Go.Proofs.YtbkiedhaacapbaaGreat
open Go.Shelf
end Go.Proofs.YtbkiedhaacapbaaGreat

namespace Go.Proofs.YtbkiedhaacapbaaGreat
open Go.RowKit Go.Sort
set_option maxRecDepth 100000
def putV (xs : List Value) : Nat → List Value → List Value
  | _, [] => xs
  | k, v :: r => putV (xs.set k v) (k + 1) r
theorem putV_len : ∀ (vs : List Value) (k : Nat) (xs : List Value), (putV xs k vs).length = xs.length := by
  intro vs
  induction vs with
  | nil => intro k xs; rfl
  | cons v r ih => intro k xs; rw [putV, ih, List.length_set]
theorem putV_eq : ∀ (vs : List Value) (k : Nat) (xs : List Value), k + vs.length ≤ xs.length → putV xs k vs = xs.take k ++ vs ++ xs.drop (k + vs.length) := by
  intro vs
  induction vs with
  | nil => intro k xs _; simp [putV]
  | cons v r ih =>
    intro k xs h
    simp only [List.length_cons] at h
    rw [putV, ih (k + 1) (xs.set k v) (by rw [List.length_set]; omega)]
    have hk : k < xs.length := by omega
    rw [List.take_succ_eq_append_getElem (by rw [List.length_set]; exact hk), List.getElem_set_self, List.take_set_of_le (Nat.le_refl k), List.drop_set_of_lt (by omega)]
    simp only [List.length_cons, List.append_assoc, List.cons_append, List.nil_append, show k + (r.length + 1) = k + 1 + r.length by omega]
theorem grownT {a b c : World} {row : Option Nat} (h : a.grownBy b row) (k : b.grownBy c row) : a.grownBy c row :=
  ⟨k.os.trans h.os, k.tape.trans h.tape, k.output.trans h.output, Nat.le_trans h.size k.size, fun i hi hne => (k.block i (Nat.lt_of_lt_of_le hi h.size) hne).trans (h.block i hi hne)⟩
theorem owns_setCells {base g n c : Nat} {e : TypeId} : ∀ (vs : List Value) (k : Nat) (w : World) (xs : List Value), w.ownsRow base e 1 (.slice (some ⟨g, 0, none⟩) n c) n xs →
    (w.setCells g k vs).ownsRow base e 1 (.slice (some ⟨g, 0, none⟩) n c) n (putV xs k vs) ∧ w.grownBy (w.setCells g k vs) (some g) := by
  intro vs
  induction vs with
  | nil => intro k w xs h; exact ⟨h, ⟨rfl, rfl, rfl, Nat.le_refl _, fun _ _ _ => rfl⟩⟩
  | cons v r ih =>
    intro k w xs h
    have h1 := World.ownsRow.stored h k v
    have h2 := ih (k + 1) _ _ h1.1
    exact ⟨h2.1, grownT h1.2 h2.2⟩
/-- the row one cell longer, whatever stands there -/
theorem owns_more {w : World} {base g n c : Nat} {e : TypeId} {xs : List Value} (h : w.ownsRow base e 1 (.slice (some ⟨g, 0, none⟩) n c) n xs) (hc : n + 1 ≤ c) : ∃ u, w.ownsRow base e 1 (.slice (some ⟨g, 0, none⟩) (n + 1) c) (n + 1) (xs ++ [u]) := by
  obtain ⟨hl, ⟨h0, _⟩ | ⟨g', cap, cur, e1, hb, hg, hle, hm, hs, ht⟩⟩ := h
  · cases h0
  · injection e1 with e1 _ e3
    injection e1 with e1
    injection e1 with e1 _ _
    subst e1 e3
    rw [Nat.mul_one] at hl hs ht
    have hlt : n < cur.toList.length := by rw [Array.length_toList]; omega
    refine ⟨cur.toList[n], ⟨by rw [List.length_append, hl]; simp, .inr ⟨g, c, cur, rfl, hb, hg, hc, hm, by rw [Nat.mul_one]; exact hs, ?_⟩⟩⟩
    rw [Nat.mul_one, List.take_succ_eq_append_getElem hlt, ht]
/-- a new block whose first cells are these -/
theorem owns_new {w : World} {base n c : Nat} {e : TypeId} {cur : Array Value} {xs : List Value} (hb : base ≤ w.heap.size) (hn : n ≤ c) (hm : c ≤ maxLen) (hs : cur.size = c) (hx : cur.toList.take n = xs) :
    (w.alloc (.cells cur e)).ownsRow base e 1 (.slice (some ⟨w.heap.size, 0, none⟩) n c) n xs :=
  ⟨by rw [← hx, List.length_take, Array.length_toList]; omega, .inr ⟨w.heap.size, c, cur, rfl, hb, heap_alloc_new w _, hn, hm, by rw [Nat.mul_one]; exact hs, by rw [Nat.mul_one]; exact hx⟩⟩
theorem alloc_grown (w : World) (o : Obj) (row : Option Nat) : w.grownBy (w.alloc o) row := World.grownBy_alloc w o row
theorem drew_grown (w : World) (row : Option Nat) : w.grownBy w.drew row := ⟨rfl, rfl, rfl, Nat.le_refl _, fun _ _ _ => rfl⟩
theorem zero_size (k : Nat) : (Builtin.zeroCells (Value.int .i64 0).cells k).size = k := by
  rw [size_zeroCells]
  show k * 1 = k
  omega
theorem insL_eq (cs : List Value) (u y : Value) {n i : Nat} (hl : cs.length = n) (hi : i ≤ n) : putV (putV (cs ++ [u]) (i + 1) (cs.drop i)) i [y] = cs.take i ++ y :: cs.drop i := by
  have hd : (cs.drop i).length = n - i := by rw [List.length_drop, hl]
  have e0 : putV (cs ++ [u]) (i + 1) (cs.drop i) = (cs ++ [u]).take (i + 1) ++ cs.drop i := by
    rw [putV_eq _ _ _ (by rw [hd, List.length_append, hl, List.length_singleton]; omega)]
    have e1 : (cs ++ [u]).drop (i + 1 + (cs.drop i).length) = [] := by
      rw [List.drop_eq_nil_iff, List.length_append, hd, hl, List.length_singleton]; omega
    rw [e1, List.append_nil]
  have hA : ((cs ++ [u]).take (i + 1)).length = i + 1 := by rw [List.length_take, List.length_append, hl, List.length_singleton]; omega
  rw [e0, putV_eq _ _ _ (by rw [List.length_append, hA, hd, List.length_singleton]; omega)]
  have e2 : ((cs ++ [u]).take (i + 1) ++ cs.drop i).take i = cs.take i := by
    have h1 : i ≤ ((cs ++ [u]).take (i + 1)).length := by omega
    have h2 : i ≤ cs.length := by omega
    rw [List.take_append_of_le_length h1, List.take_take, Nat.min_eq_left (Nat.le_succ i), List.take_append_of_le_length h2]
  have e3 : ((cs ++ [u]).take (i + 1) ++ cs.drop i).drop (i + [y].length) = cs.drop i := by
    have h1 : i + [y].length = ((cs ++ [u]).take (i + 1)).length := by rw [hA]; rfl
    rw [h1, List.drop_left]
  rw [e2, e3]
  simp
theorem insL_eq2 (cs zs : List Value) (y : Value) {n i : Nat} (hl : cs.length = n) (hi : i ≤ n) (hz : zs.length = n + 1 - i) : putV (putV (cs.take i ++ zs) i [y]) (i + 1) (cs.drop i) = cs.take i ++ y :: cs.drop i := by
  have hci : (cs.take i).length = i := by rw [List.length_take]; omega
  rw [putV_eq [y] _ _ (by simp; omega)]
  rw [show i + [y].length = i + 1 from rfl]
  have e1 : (cs.take i ++ zs).take i = cs.take i := by rw [List.take_append_of_le_length (by omega), List.take_of_length_le (by omega)]
  rw [e1]
  have hlen : (cs.take i ++ [y] ++ (cs.take i ++ zs).drop (i + 1)).length = n + 1 := by
    simp only [List.length_append, List.length_drop, List.length_take, List.length_singleton]; omega
  rw [putV_eq _ _ _ (by rw [hlen, List.length_drop]; omega)]
  have e2 : (cs.take i ++ [y] ++ (cs.take i ++ zs).drop (i + 1)).drop (i + 1 + (cs.drop i).length) = [] := by
    rw [List.drop_eq_nil_iff, hlen, List.length_drop]; omega
  rw [e2, List.append_nil, List.take_append_of_le_length (by simp; omega), List.take_of_length_le (by simp; omega)]
  simp
theorem insN_map (xs : List Int) (y : Int) (i : Nat) : (xs.take i ++ y :: xs.drop i).map (Value.int .i64) = (xs.map (Value.int .i64)).take i ++ Value.int .i64 y :: (xs.map (Value.int .i64)).drop i := by
  rw [List.map_append, List.map_cons, List.map_take, List.map_drop]
theorem ins_len (xs : List Int) (y : Int) {n i : Nat} (hl : xs.length = n) (hi : i ≤ n) : (xs.take i ++ y :: xs.drop i).length = n + 1 := by
  simp; omega
end Go.Proofs.YtbkiedhaacapbaaGreat

namespace Go.Proofs.YtbkiedhaacapbaaGreat
open Go.RowKit Go.Sort
set_option maxRecDepth 100000
/-- the order with player number i moved to place p -/
def candL (l : List Nat) (i p : Nat) : List Nat := (l.eraseIdx i).take p ++ l.getD i 0 :: (l.eraseIdx i).drop p
theorem cand_perm {l : List Nat} {i p : Nat} (hi : i < l.length) : (candL l i p).Perm l := by
  unfold candL
  refine List.perm_middle.trans ?_
  rw [List.take_append_drop, List.eraseIdx_eq_take_drop_succ, getD_nat hi]
  refine List.perm_middle.symm.trans ?_
  rw [← List.drop_eq_getElem_cons hi, List.take_append_drop]
theorem cand_ord {n : Nat} {l : List Nat} (hl : l ∈ ordL n) {i p : Nat} (hi : i < n) : candL l i p ∈ ordL n := by
  obtain ⟨h1, h2, h3⟩ := mem_ordL.1 hl
  have hp := cand_perm (p := p) (l := l) (i := i) (by omega)
  exact mem_ordL.2 ⟨by rw [hp.length_eq]; exact h1, fun x hx => h2 x (hp.mem_iff.1 hx), hp.nodup_iff.2 h3⟩
theorem erase_nI (l : List Nat) (i : Nat) : (nI l).eraseIdx i = nI (l.eraseIdx i) := by
  unfold nI
  rw [List.eraseIdx_eq_take_drop_succ, List.eraseIdx_eq_take_drop_succ, List.map_append, List.map_take, List.map_drop]
theorem cand_nI (l : List Nat) (i p : Nat) : (nI (l.eraseIdx i)).take p ++ ((l.getD i 0 : Nat) : Int) :: (nI (l.eraseIdx i)).drop p = nI (candL l i p) := by
  unfold nI candL
  rw [List.map_append, List.map_cons, List.map_take, List.map_drop]
theorem getD_nI' (l : List Nat) (i : Nat) : (l.map fun (a : Nat) => (a : Int)).getD i 0 = ((l.getD i 0 : Nat) : Int) := by
  rw [List.getD_eq_getElem?_getD, List.getElem?_map, List.getD_eq_getElem?_getD]
  cases l[i]? <;> rfl
/-- no move of one player makes it better -/
def settled (r : Nat → Nat → Bool) (n : Nat) (l : List Nat) : Prop := ∀ i, i < n → ∀ p, p < n → revN r l ≤ revN r (candL l i p)
set_option maxHeartbeats 400000 in
theorem clone_own (base g n c : Nat) (xs : List Int) (w : World) (h : Own w base (.slice (some ⟨g, 0, none⟩) n c) xs) (hl : xs.length = n) (hn : n ≤ 1048576) :
    Calls Tryz.prog 74 #[.slice (some ⟨g, 0, none⟩) n c] w fun e w' => ∃ v', e = .returned v' ∧ Own w' w.heap.size v' xs ∧ Below w.heap.size w w' := by
  have hg : g < w.heap.size := (h.lt g rfl).2
  have hx' : ∀ k, k < xs.length → (w.alloc (.cells #[] 3)).cell? ((⟨g, 0, none⟩ : Addr).add k) = some (.int .i64 (xs.getD k 0)) := fun k hk => by
    rw [Addr.add_lit, World.cell?_alloc_lt _ _ _ (by exact hg), Nat.zero_add]
    exact (h.at0 hl (by omega)).1 k (by omega)
  have HX := Lib.hid hx'
  have ho := Own.lit w w.heap.size [] (Nat.le_refl _) (by simp)
  have HO := Lib.hid ho
  have HN := Lib.hid hl
  clear hx' ho h
  have e0 : ∀ w : World, (binOp .eql 23 (.slice (some ⟨g, 0, none⟩) n c) (.slice none 0 0)).run Tryz.prog w = .ok (.bool false) w := fun _ => by kernel_rfl
  go_enter Tryz.func74, Tryz.ntmps74
  go_wp2_with (at_builtin; refine wp_appendN (w.alloc (.cells #[] 3)) rfl (.tmp 5) (.tmp 6) rfl w.heap.size _ [] rfl HO.out ⟨g, 0, none⟩ c xs (by rw [HN.out]; simp [Act.eval]) HX.out (by simp; omega) (by simp) ?_; intro v' w' ho hgr; have HO2 := Lib.hid ho; have HG2 := Lib.hid hgr; clear ho hgr)
  go_ret
  exact ⟨_, rfl, by simpa using HO2.out, Below.grown (below_alloc1 w _) HG2.out (by simp) (fun k hk => (HO.out.lt k hk).1)⟩
variable {n : Nat} {sl ov : Value} {xs : List Int} {w : World} {l : List Nat}
end Go.Proofs.YtbkiedhaacapbaaGreat

namespace Go.Proofs.YtbkiedhaacapbaaGreat
open Go.RowKit Go.Sort
set_option maxRecDepth 100000
def flR (ys : List Int) (r : List Int) : List Int := flipL ys (r.getD 0 0).toNat (r.getD 1 0).toNat
/-- the games of the rows reversed -/
def strL (xs : List Int) (rows : List (List Int)) : List Int := rows.foldl flR xs
theorem strL_snoc (xs : List Int) (rows : List (List Int)) (r : List Int) : strL xs (rows ++ [r]) = flR (strL xs rows) r := by simp [strL]
theorem pair_mem {P : List (List Int)} {a b x y : Nat} : ([(x : Int), (y : Int)] ∈ P ++ [[(a : Int), (b : Int)]]) ↔ ([(x : Int), (y : Int)] ∈ P ∨ (x = a ∧ y = b)) := by
  rw [List.mem_append, List.mem_singleton]
  constructor
  · rintro (h | h)
    · exact .inl h
    · injection h with h1 h2
      injection h2 with h2 _
      exact .inr ⟨by omega, by omega⟩
  · rintro (h | ⟨rfl, rfl⟩)
    · exact .inl h
    · exact .inr rfl
open Classical in
theorem str_law {n : Nat} {xs : List Int} (hp : tourP n xs) : ∀ (rows rest : List (List Int)), (∀ r ∈ rows, ∃ a b : Nat, a < n ∧ b < n ∧ r = [(a : Int), (b : Int)] ∧ bt xs a b = true) → rows.Nodup →
    tourP n (strL xs rows) ∧ ∀ x y, x < n → y < n → bt (strL xs rows) x y = (bt xs x y ^^ decide ([(x : Int), (y : Int)] ∈ rows ∨ [(y : Int), (x : Int)] ∈ rows)) := by
  intro rows rest
  clear rest
  have key : ∀ (k : Nat), k ≤ rows.length → (∀ r ∈ rows, ∃ a b : Nat, a < n ∧ b < n ∧ r = [(a : Int), (b : Int)] ∧ bt xs a b = true) → rows.Nodup →
      tourP n (strL xs (rows.take k)) ∧ ∀ x y, x < n → y < n → bt (strL xs (rows.take k)) x y = (bt xs x y ^^ decide ([(x : Int), (y : Int)] ∈ rows.take k ∨ [(y : Int), (x : Int)] ∈ rows.take k)) := by
    intro k
    induction k with
    | zero => intro _ _ _; exact ⟨by simpa [strL] using hp, fun x y _ _ => by simp [strL]⟩
    | succ k ih =>
      intro hk hr hn
      obtain ⟨i1, i2⟩ := ih (by omega) hr hn
      have hkl : k < rows.length := by omega
      rw [List.take_succ_eq_append_getElem hkl]
      obtain ⟨a, b, ha, hb, e, hab⟩ := hr rows[k] (List.getElem_mem hkl)
      have hne := (bt_asym hp ha hb hab)
      have hnk : rows[k] ∉ rows.take k := fun hm => by
        rw [List.mem_iff_getElem] at hm
        obtain ⟨j, hj, ej⟩ := hm
        rw [List.length_take] at hj
        rw [List.getElem_take] at ej
        exact List.pairwise_iff_getElem.1 hn j k (by omega) hkl (by omega) ej
      rw [e] at hnk ⊢
      have hnk2 : [(b : Int), (a : Int)] ∉ rows.take k := fun hm => by
        obtain ⟨c, d, -, -, e2, h2⟩ := hr _ (List.mem_of_mem_take hm)
        injection e2 with e3 e4
        injection e4 with e4 _
        have h3 : c = b := by omega
        have h4 : d = a := by omega
        subst h3 h4
        rw [hne.1] at h2; cases h2
      rw [strL_snoc]
      have efl : flR (strL xs (rows.take k)) [(a : Int), (b : Int)] = flipL (strL xs (rows.take k)) a b := rfl
      rw [efl]
      refine ⟨flip_tourN i1 ha hb hne.2, fun x y hx hy => ?_⟩
      rw [flip_btN i1 ha hb hne.2 hx, i2 x y hx hy, Bool.xor_assoc]
      congr 1
      by_cases h1 : x = a ∧ y = b
      · obtain ⟨rfl, rfl⟩ := h1
        have d1 : decide ([(x : Int), (y : Int)] ∈ rows.take k ∨ [(y : Int), (x : Int)] ∈ rows.take k) = false := decide_eq_false (by simp [hnk, hnk2])
        rw [d1, decide_eq_true (.inl (pair_mem.2 (.inr ⟨rfl, rfl⟩)))]
        simp
      · by_cases h2 : x = b ∧ y = a
        · obtain ⟨rfl, rfl⟩ := h2
          have d1 : decide ([(x : Int), (y : Int)] ∈ rows.take k ∨ [(y : Int), (x : Int)] ∈ rows.take k) = false := decide_eq_false (by simp [hnk, hnk2])
          rw [d1, decide_eq_true (.inr (pair_mem.2 (.inr ⟨rfl, rfl⟩)))]
          simp
        · have e1 : ((x == a && y == b) || (x == b && y == a)) = false := by
            rw [Bool.or_eq_false_iff, Bool.and_eq_false_iff, Bool.and_eq_false_iff]
            simp only [beq_eq_false_iff_ne]
            omega
          rw [e1, Bool.xor_false]
          rw [decide_eq_decide, pair_mem, pair_mem]
          constructor
          · rintro (h | h)
            · exact .inl (.inl h)
            · exact .inr (.inl h)
          · rintro ((h | h) | (h | h))
            · exact .inl h
            · exact absurd h h1
            · exact .inr h
            · exact absurd ⟨h.2, h.1⟩ h2
  intro hr hn
  have := key rows.length (Nat.le_refl _) hr hn
  rwa [List.take_length] at this
/-- the rows' order -/
def rowK (r : List Int) : Int := r.getD 0 0 * 100 + r.getD 1 0
theorem bg_sorted (r : Nat → Nat → Bool) {n : Nat} (hn : n ≤ 50) (l : List Nat) : (bgN r n l).Pairwise fun x y => rowK x < rowK y := by
  unfold bgN bgTo
  rw [List.pairwise_flatMap]
  refine ⟨fun a ha => ?_, ?_⟩
  · unfold bgIn
    rw [List.pairwise_map]
    refine List.Pairwise.imp ?_ (List.Pairwise.filter _ List.pairwise_lt_range)
    intro b c h
    have e1 : rowK [(a : Int), (b : Int)] = (a : Int) * 100 + b := rfl
    have e2 : rowK [(a : Int), (c : Int)] = (a : Int) * 100 + c := rfl
    rw [e1, e2]; omega
  · refine List.Pairwise.imp ?_ List.pairwise_lt_range
    intro a b hab x hx y hy
    unfold bgIn at hx hy
    rw [List.mem_map] at hx hy
    obtain ⟨c, hc, rfl⟩ := hx
    obtain ⟨d, hd, rfl⟩ := hy
    have hc := List.mem_range.1 (List.mem_filter.1 hc).1
    have hd := List.mem_range.1 (List.mem_filter.1 hd).1
    have e1 : rowK [(a : Int), (c : Int)] = (a : Int) * 100 + c := rfl
    have e2 : rowK [(b : Int), (d : Int)] = (b : Int) * 100 + d := rfl
    rw [e1, e2]; omega
theorem bg_nodup (r : Nat → Nat → Bool) {n : Nat} (hn : n ≤ 50) (l : List Nat) : (bgN r n l).Nodup :=
  (bg_sorted r hn l).imp fun h e => by subst e; omega
/-- a straightened tour: who stands ahead beats who stands behind -/
theorem straight {n : Nat} {xs : List Int} (hp : tourP n xs) {l : List Nat} (hl : l ∈ ordL n) :
    tourP n (strL xs (bgN (bt xs) n l)) ∧ ∀ x y, x < n → y < n → bt (strL xs (bgN (bt xs) n l)) x y = decide (l.idxOf x < l.idxOf y) := by
  have h8 : n ≤ 8 := by have := hp.1; omega
  obtain ⟨h1, h2⟩ := str_law hp (bgN (bt xs) n l) [] (fun r hr => by
    obtain ⟨a, b, ha, hb, hq, e⟩ := bgN_mem.1 hr
    unfold bgP at hq
    rw [Bool.and_eq_true] at hq
    exact ⟨a, b, ha, hb, e, hq.1⟩) (bg_nodup _ (by omega) l)
  refine ⟨h1, fun x y hx hy => ?_⟩
  rw [h2 x y hx hy]
  have hm : ∀ x y, x < n → y < n → ([(x : Int), (y : Int)] ∈ bgN (bt xs) n l ↔ bt xs x y = true ∧ l.idxOf y < l.idxOf x) := fun x y hx hy => by
    rw [bgN_mem]
    constructor
    · rintro ⟨a, b, ha, hb, hq, e⟩
      injection e with e1 e2
      injection e2 with e2 _
      have h3 : a = x := by omega
      have h4 : b = y := by omega
      subst h3 h4
      unfold bgP at hq
      rw [Bool.and_eq_true, decide_eq_true_eq] at hq
      exact hq
    · rintro ⟨q1, q2⟩
      exact ⟨x, y, hx, hy, by unfold bgP; rw [q1, decide_eq_true q2]; rfl, rfl⟩
  by_cases hxy : x = y
  · subst hxy
    have := bt_irr hp x
    rw [this]
    simp [hm x x hx hx, this]
  · have hidx : l.idxOf x ≠ l.idxOf y := fun e => by
      have mx := ord_all hl hx
      have my := ord_all hl hy
      have ix := List.idxOf_lt_length_iff.2 mx
      have iy := List.idxOf_lt_length_iff.2 my
      have e1 := List.getElem_idxOf ix
      have e2 := List.getElem_idxOf iy
      apply hxy
      rw [← e1, ← e2]
      congr 1
    have hf := (tour_bits hp).2.2 x y (by rw [tour_len hp]; exact hx) (by rw [tour_len hp]; exact hy) hxy
    rcases q : bt xs x y with _ | _
    · have q2 : bt xs y x = true := by rw [q] at hf; simpa using hf.symm
      have : decide ([(x : Int), (y : Int)] ∈ bgN (bt xs) n l ∨ [(y : Int), (x : Int)] ∈ bgN (bt xs) n l) = decide (l.idxOf x < l.idxOf y) := by
        rw [decide_eq_decide, hm x y hx hy, hm y x hy hx, q, q2]; simp
      rw [this]; simp
    · have q2 : bt xs y x = false := by rw [q] at hf; simpa using hf.symm
      have : decide ([(x : Int), (y : Int)] ∈ bgN (bt xs) n l ∨ [(y : Int), (x : Int)] ∈ bgN (bt xs) n l) = decide (l.idxOf y < l.idxOf x) := by
        rw [decide_eq_decide, hm x y hx hy, hm y x hy hx, q, q2]; simp
      rw [this]
      by_cases h : l.idxOf y < l.idxOf x
      · rw [decide_eq_true h, decide_eq_false (by omega)]; rfl
      · rw [decide_eq_false h, decide_eq_true (by omega)]; rfl
theorem straight_zero {n : Nat} {xs : List Int} (hp : tourP n xs) {l : List Nat} (hl : l ∈ ordL n) : revN (bt (strL xs (bgN (bt xs) n l))) l = 0 := by
  rw [← bgN_len hl, List.length_eq_zero_iff, List.eq_nil_iff_forall_not_mem]
  intro x hx
  obtain ⟨a, b, ha, hb, hq, -⟩ := bgN_mem.1 hx
  unfold bgP at hq
  rw [Bool.and_eq_true, (straight hp hl).2 a b ha hb, decide_eq_true_eq, decide_eq_true_eq] at hq
  omega
theorem straight_trans {n : Nat} {xs : List Int} (hp : tourP n xs) {l : List Nat} (hl : l ∈ ordL n) : transP (strL xs (bgN (bt xs) n l)) n := by
  intro a b c ha hb hc h1 h2
  rw [(straight hp hl).2 _ _ ha hb, decide_eq_true_eq] at h1
  rw [(straight hp hl).2 _ _ hb hc, decide_eq_true_eq] at h2
  rw [(straight hp hl).2 _ _ ha hc, decide_eq_true_eq]
  omega
end Go.Proofs.YtbkiedhaacapbaaGreat

namespace Go.Proofs.YtbkiedhaacapbaaGreat
open Go.RowKit Go.Sort
set_option maxRecDepth 100000
variable {n : Nat} {sl ov : Value} {xs : List Int} {w : World} {l : List Nat}
open Classical in
noncomputable def trB (xs : List Int) (n : Nat) : Bool := decide (transP xs n)
theorem trB_iff {xs : List Int} {n : Nat} : trB xs n = true ↔ transP xs n := by unfold trB; simp
set_option maxHeartbeats 2000000 in
theorem cTrans (hp : tourP n xs) (h : Rd w sl xs) : Calls Tryz.prog 5 #[.agg #[.int .i64 n, sl]] w fun e w' => e = .returned (.bool (trB xs n)) ∧ Below w.heap.size w w' := by
  have HR := Lib.hid h
  obtain ⟨A, cA, rfl, -, -, -⟩ := h
  rw [tour_len hp] at *
  have HP := Lib.hid hp
  have HT : Hid (trB xs n = decide ((partsN xs (2 ^ n - 1)).length = n)) := by
    unfold Hid
    rw [Bool.eq_iff_iff, trB_iff, decide_eq_true_eq, trans_iff hp]
  clear hp
  go_enter Tryz.func5, Tryz.ntmps5
  go_wp2_with fail
  have b0 := below_alloc1 w (.cells #[.int .i64 n, .slice A n cA] 25)
  have x0 := TBox.new w n (.slice A n cA) 25
  generalize w.alloc (.cells #[.int .i64 n, .slice A n cA] 25) = w0 at *
  have HX0 := Lib.hid x0
  have HB0 := Lib.hid b0
  clear x0 b0
  have y0_0 := HX0.out.1
  have y1_0 := HX0.out.2
  have KP : Hid (∀ W, Below w0.heap.size w0 W → (W.cell? ⟨w.heap.size, 0, none⟩ = some (.int .i64 n) ∧ W.cell? ⟨w.heap.size, 1, none⟩ = some (.slice A n cA))) := Lib.hid fun W hW => ⟨(HX0.out.below hW).1, (HX0.out.below hW).2⟩
  have KT : Hid (∀ W, Below w0.heap.size w0 W → Calls Tryz.prog 7 #[.agg #[.int .i64 n, .slice A n cA]] W fun e w' => e = .returned (.bool true) ∧ Below W.heap.size W w') := Lib.hid fun W hW => by
    have := implTourOk n (.slice A n cA) xs W (HR.out.below (Below.then HB0.out hW))
    rw [tourB_true.2 HP.out] at this
    exact this
  have KM : Hid (∀ W, Below w0.heap.size w0 W → Calls Tryz.prog 27 #[.agg #[.int .i64 n, .slice A n cA]] W fun e w' => ∃ A c, e = .returned (.slice A (partsN xs (2 ^ n - 1)).length c) ∧ Below W.heap.size W w') := Lib.hid fun W hW =>
    (cPartsM HP.out (HR.out.below (Below.then HB0.out hW))).mono fun e w' ⟨A, c, h1, _, _, h4⟩ => ⟨A, c, h1, h4⟩
  generalize (partsN xs (2 ^ n - 1)).length = m at *
  have BB0 : Below w0.heap.size w0 w0.drew := (Below.refl _ _).drew
  refine wp_region_held_drew (S := fun W => W.cell? ⟨w.heap.size, 0, none⟩ = some (.int .i64 n) ∧ W.cell? ⟨w.heap.size, 1, none⟩ = some (.slice A n cA)) (by kernel_rfl) (KP.out _ BB0) (fun hS0 => ?_)
  refine hTake (i := 0) (v := ?v0_1) rfl (by kernel_rfl) (by kernel_rfl) (by kernel_rfl) (fun _ _ _ h => h) (Or.inl ⟨by rfl, ?hy0_1⟩) hS0 ?rest0_1
  case hy0_1 =>
    intro W hSw
    (try dsimp only at hSw)
    go_simp
    first | done | (with_reducible rfl)
  try simp only [Act.put, List.setIfInBounds_toArray, List.set_cons_zero, List.set_cons_succ]
  refine wpAnyH_ready (rs := [1]) (by kernel_rfl) (by simp) ?_
  refine hStep (i := 1) rfl (fun K hK => ?_) AllReadyH.nil
  go_simp; go_at_call 7; refine (KT.out _ BB0).mono ?_; rintro e v1 ⟨rfl, hb⟩; have BB1 := Below.then BB0 hb; clear hb; try go_wp2_with fail
  refine hK.out _ _ ?_ (fun hS1 => ?_)
  · (try dsimp only); exact KP.out _ BB1
  clear hK K
  try simp only [Act.put, List.setIfInBounds_toArray, List.set_cons_zero, List.set_cons_succ]
  refine hTake (i := 2) (v := ?v2_2) rfl (by kernel_rfl) (by kernel_rfl) (by kernel_rfl) (fun _ _ _ h => h) (Or.inl ⟨by rfl, ?hy2_2⟩) hS1 ?rest2_2
  case hy2_2 =>
    intro W hSw
    (try dsimp only at hSw)
    go_simp
    first | done | (with_reducible rfl)
  try simp only [Act.put, List.setIfInBounds_toArray, List.set_cons_zero, List.set_cons_succ]
  refine hTake (i := 3) (v := ?v3_3) rfl (by kernel_rfl) (by kernel_rfl) (by kernel_rfl) (fun _ _ _ h => h) (Or.inl ⟨by rfl, ?hy3_3⟩) hS1 ?rest3_3
  case hy3_3 =>
    intro W hSw
    (try dsimp only at hSw)
    go_simp
    first | done | (with_reducible rfl)
  try simp only [Act.put, List.setIfInBounds_toArray, List.set_cons_zero, List.set_cons_succ]
  refine hTake (i := 6) (v := ?v6_4) rfl (by kernel_rfl) (by kernel_rfl) (by kernel_rfl) (fun _ _ _ h => h) (Or.inl ⟨by rfl, ?hy6_4⟩) hS1 ?rest6_4
  case hy6_4 =>
    intro W hSw
    (try dsimp only at hSw)
    go_simp
    first | done | (with_reducible rfl)
  try simp only [Act.put, List.setIfInBounds_toArray, List.set_cons_zero, List.set_cons_succ]
  refine hTake (i := 7) (v := ?v7_5) rfl (by kernel_rfl) (by kernel_rfl) (by kernel_rfl) (fun _ _ _ h => h) (Or.inl ⟨by rfl, ?hy7_5⟩) hS1 ?rest7_5
  case hy7_5 =>
    intro W hSw
    (try dsimp only at hSw)
    go_simp
    first | done | (with_reducible rfl)
  try simp only [Act.put, List.setIfInBounds_toArray, List.set_cons_zero, List.set_cons_succ]
  refine wpAnyH_ready (rs := [4]) (by kernel_rfl) (by simp) ?_
  refine hStep (i := 4) rfl (fun K hK => ?_) AllReadyH.nil
  go_simp; go_at_call 27; refine (KM.out _ BB1).mono ?_; rintro e v2 ⟨C2, c2, rfl, hb⟩; have BB2 := Below.then BB1 hb; clear hb; try go_wp2_with fail
  refine hK.out _ _ ?_ (fun hS2 => ?_)
  · (try dsimp only); exact KP.out _ BB2
  clear hK K
  try simp only [Act.put, List.setIfInBounds_toArray, List.set_cons_zero, List.set_cons_succ]
  refine hTake (i := 5) (v := ?v5_6) rfl (by kernel_rfl) (by kernel_rfl) (by kernel_rfl) (fun _ _ _ h => h) (Or.inl ⟨by rfl, ?hy5_6⟩) hS2 ?rest5_6
  case hy5_6 =>
    intro W hSw
    (try dsimp only at hSw)
    go_simp
    first | done | (with_reducible rfl)
  try simp only [Act.put, List.setIfInBounds_toArray, List.set_cons_zero, List.set_cons_succ]
  refine hTake (i := 8) (v := ?v8_7) rfl (by kernel_rfl) (by kernel_rfl) (by kernel_rfl) (fun _ _ _ h => h) (Or.inl ⟨by rfl, ?hy8_7⟩) hS2 ?rest8_7
  case hy8_7 =>
    intro W hSw
    (try dsimp only at hSw)
    go_simp
    first | done | (with_reducible rfl)
  try simp only [Act.put, List.setIfInBounds_toArray, List.set_cons_zero, List.set_cons_succ]
  refine hTake (i := 9) (v := ?v9_8) rfl (by kernel_rfl) (by kernel_rfl) (by kernel_rfl) (fun _ _ _ h => h) (Or.inl ⟨by rfl, ?hy9_8⟩) hS2 ?rest9_8
  case hy9_8 =>
    intro W hSw
    (try dsimp only at hSw)
    go_simp
    first | done | (with_reducible rfl)
  try simp only [Act.put, List.setIfInBounds_toArray, List.set_cons_zero, List.set_cons_succ]
  refine hTake (i := 10) (v := ?v10_9) rfl (by kernel_rfl) (by kernel_rfl) (by kernel_rfl) (fun _ _ _ h => h) (Or.inl ⟨by rfl, ?hy10_9⟩) hS2 ?rest10_9
  case hy10_9 =>
    intro W hSw
    (try dsimp only at hSw)
    go_simp
    first | done | (with_reducible rfl)
  try simp only [Act.put, List.setIfInBounds_toArray, List.set_cons_zero, List.set_cons_succ]
  refine wpAnyH_done (by kernel_rfl) ?_ _
  go_wp2
  go_ret
  exact ⟨by rw [HT.out]; simp; rw [Bool.eq_iff_iff, beq_iff_eq, decide_eq_true_eq]; omega, Below.then HB0.out BB2⟩
end Go.Proofs.YtbkiedhaacapbaaGreat

namespace Go.Proofs.YtbkiedhaacapbaaGreat
open Go.RowKit Go.Sort
set_option maxRecDepth 100000
variable {n : Nat} {sl : Value} {xs : List Int} {w : World}
def chK (n : Nat) : Nat → Nat
  | 0 => 1
  | i + 1 => chK n i * (n - i) / (i + 1)
def chN (n k : Nat) : Nat := if n < k then 0 else chK n k
theorem chK_le : ∀ n, n < 9 → ∀ i, i < 5 → chK n i ≤ 100 := by decide
theorem chN_le {n k : Nat} (hn : n ≤ 8) (hk : k ≤ 3) : chN n k ≤ 100 := by
  unfold chN
  split
  · omega
  · exact chK_le n (by omega) k (by omega)
set_option maxHeartbeats 1000000 in
theorem choose_any (n k : Nat) (w : World) (hn : n ≤ 8) (hk : k ≤ 3) : Calls Tryz.prog 36 #[.int .i64 n, .int .i64 k] w fun e w' => e = .returned (.int .i64 (chN n k : Nat)) ∧ w = w' := by
  have HV : Hid (chN n k = if n < k then 0 else chK n k) := rfl
  go_enter Tryz.func36, Tryz.ntmps36
  by_cases h : n < k
  · have hd : decide ((n : Int) < (k : Int)) = true := decide_eq_true (by omega)
    go_wp2
    go_ret
    exact ⟨ret_int (by rw [HV.out, if_pos h]; rfl), rfl⟩
  · have hd : decide ((n : Int) < (k : Int)) = false := decide_eq_false (by omega)
    go_wp2
    go_loop [5, 11] (fun t5 t11 => ∃ i : Nat, i ≤ k ∧ t11 = .int .i64 i ∧ t5 = .int .i64 (chK n i : Nat)) (fun _ t11 => k - (intOf t11).toNat)
    case atStart => exact ⟨0, by omega, rfl, rfl⟩
    case round =>
      obtain ⟨i, hi, rfl, rfl⟩ := hrel
      by_cases hlt : i < k
      · have HS : Hid (chK n (i + 1) = chK n i * (n - i) / (i + 1)) := rfl
        have hA := chK_le n (by omega) i (by omega)
        have hQ := chK_le n (by omega) (i + 1) (by omega)
        have HGO : Hid (wrap64 ((wrap64 ((chK n i : Int) * ((n : Int) - (i : Int)))).tdiv ((i : Int) + 1)) = ((chK n (i + 1) : Nat) : Int)) := Lib.hid (by
          rw [show (n : Int) - (i : Int) = ((n - i : Nat) : Int) by omega]
          have hP : chK n i * (n - i) ≤ 100 * 8 := Nat.mul_le_mul hA (by omega)
          have e2 : (chK n i : Int) * ((n - i : Nat) : Int) = ((chK n i * (n - i) : Nat) : Int) := by push_cast; rfl
          rw [e2, IntWalk.wrap64_in ((chK n i * (n - i) : Nat) : Int) (by omega)]
          have e4 : (((chK n i * (n - i) : Nat) : Int)).tdiv ((i : Int) + 1) = ((chK n (i + 1) : Nat) : Int) := by
            rw [HS.out, Int.tdiv_eq_ediv_of_nonneg (by omega)]
            push_cast
            rfl
          rw [e4]
          exact IntWalk.wrap64_in _ (by omega))
        clear hA hQ
        go_wp2
        go_round
        case rel => exact ⟨i + 1, by omega, by go_num, by rw [HGO.out]⟩
        case measure => simp [intOf]; omega
      · obtain rfl : i = k := by omega
        go_wp2
        go_ret
        exact ⟨ret_int (by rw [HV.out, if_neg h]), rfl⟩
/-- three from n players, less two from each score -/
def ctK (xs : List Int) (n k : Nat) : Int := (chN n 3 : Int) - (((List.range k).map fun a => chN (popN 8 (winsN xs a)) 2).sum : Nat)
theorem ctS_succ (xs : List Int) (k : Nat) : ((List.range (k + 1)).map fun a => chN (popN 8 (winsN xs a)) 2).sum = ((List.range k).map fun a => chN (popN 8 (winsN xs a)) 2).sum + chN (popN 8 (winsN xs k)) 2 := by
  rw [List.range_succ, List.map_append, List.sum_append]; simp
theorem ctS_le (xs : List Int) (k : Nat) : ((List.range k).map fun a => chN (popN 8 (winsN xs a)) 2).sum ≤ k * 100 := by
  induction k with
  | zero => simp
  | succ k ih =>
    rw [ctS_succ]
    have := chN_le (popN_le 8 (winsN xs k)) (by decide : 2 ≤ 3)
    omega
set_option maxHeartbeats 2000000 in
theorem cTriCount (hp : tourP n xs) (h : Rd w sl xs) : Calls Tryz.prog 12 #[.agg #[.int .i64 n, sl]] w fun e w' => e = .returned (.int .i64 (ctK xs n n)) ∧ Below w.heap.size w w' := by
  have HR := Lib.hid h
  obtain ⟨A, cA, rfl, -, -, -⟩ := h
  rw [tour_len hp] at *
  have HP := Lib.hid hp
  have HL := Lib.hid (tour_len hp)
  have h8 : n ≤ 8 := by have := hp.1; omega
  clear hp
  go_enter Tryz.func12, Tryz.ntmps12
  go_wp2_with fail
  have b0 := below_alloc1 w (.cells #[.int .i64 n, .slice A n cA] 25)
  have x0 := TBox.new w n (.slice A n cA) 25
  generalize w.alloc (.cells #[.int .i64 n, .slice A n cA] 25) = w0 at *
  have HX0 := Lib.hid x0
  have HB0 := Lib.hid b0
  clear x0 b0
  have y0_0 := HX0.out.1
  have y1_0 := HX0.out.2
  go_wp2_with fail
  refine (implTourOk n _ xs _ (HR.out.below HB0.out)).mono ?_
  rintro e w1 ⟨rfl, hb⟩
  rw [tourB_true.2 HP.out]
  have HB1 := Lib.hid (Below.then HB0.out hb)
  have HX1 := Lib.hid (HX0.out.below hb)
  clear hb y0_0 y1_0 HX0 HB0
  have y0_1 := HX1.out.1
  have y1_1 := HX1.out.2
  go_wp2_with fail
  refine (choose_any n 3 w1 h8 (by decide)).mono ?_
  rintro e w2 ⟨rfl, rfl⟩
  go_wp2
  go_loopw [3, 13] (fun t3 t13 wr => ∃ k : Nat, k ≤ n ∧ t13 = .int .i64 k ∧ t3 = .int .i64 (ctK xs n k) ∧ Hid (TBox wr w.heap.size n (.slice A n cA)) ∧ Hid (Below w.heap.size w wr)) (fun _ t13 _ => n - (intOf t13).toNat)
  case atStart => exact ⟨0, by omega, rfl, by simp [ctK], HX1, HB1⟩
  case round =>
    obtain ⟨wa, rfl⟩ : ∃ x, x = wr := ⟨_, rfl⟩
    obtain ⟨k, hk, rfl, rfl, HX, HB⟩ := hrel
    clear HX1 HB1 y0_1 y1_1
    by_cases hlt : k < n
    · as_aux_lemma =>
      have y0 := HX.out.1
      have y1 := HX.out.2
      go_wp2_with fail
      refine (score_any n _ xs k _ (HR.out.below HB.out) HP.out (by rw [HL.out]; exact hlt)).mono ?_
      rintro e w3 ⟨rfl, hb3⟩
      have HX3 := Lib.hid (HX.out.below hb3)
      have HB3 := Lib.hid (Below.then HB.out hb3)
      have hs8 := popN_le 8 (winsN xs k)
      have HS := Lib.hid (ctS_succ xs k)
      have hle := ctS_le xs k
      have hc3 := chN_le h8 (by decide : 3 ≤ 3)
      have hc2 := chN_le hs8 (by decide : 2 ≤ 3)
      have HCK : Hid (∀ j, ctK xs n j = (chN n 3 : Int) - (((List.range j).map fun a => chN (popN 8 (winsN xs a)) 2).sum : Nat)) := Lib.hid fun _ => rfl
      clear hb3 HX HB y0 y1
      generalize hs : popN 8 (winsN xs k) = s at *
      clear hs
      go_wp2_with fail
      refine (choose_any s 2 w3 hs8 (by decide)).mono ?_
      rintro e w4 ⟨rfl, rfl⟩
      have HNX : Hid (ctK xs n (k + 1) = ctK xs n k - (chN s 2 : Int)) := Lib.hid (by rw [HCK.out, HCK.out, HS.out]; push_cast; omega)
      have hb1 : -800 ≤ ctK xs n k ∧ ctK xs n k ≤ 100 := by rw [HCK.out]; omega
      generalize ctK xs n k = T at *
      generalize chN s 2 = C at *
      go_wp2
      go_roundw
      case rel => exact ⟨k + 1, by omega, by go_num, by rw [HNX.out], HX3, HB3⟩
      case measure => simp [intOf]; omega
    · as_aux_lemma =>
      obtain rfl : k = n := by omega
      go_wp2
      go_ret
      exact ⟨rfl, HB.out⟩
/-- the squares of the scores -/
def sqK (xs : List Int) (k : Nat) : Nat := ((List.range k).map fun a => popN 8 (winsN xs a) * popN 8 (winsN xs a)).sum
theorem sqK_succ (xs : List Int) (k : Nat) : sqK xs (k + 1) = sqK xs k + popN 8 (winsN xs k) * popN 8 (winsN xs k) := by
  unfold sqK
  rw [List.range_succ, List.map_append, List.sum_append]; simp
theorem sqK_le (xs : List Int) (k : Nat) : sqK xs k ≤ k * 64 := by
  induction k with
  | zero => simp [sqK]
  | succ k ih =>
    rw [sqK_succ]
    have h := popN_le 8 (winsN xs k)
    have : popN 8 (winsN xs k) * popN 8 (winsN xs k) ≤ 8 * 8 := Nat.mul_le_mul h h
    omega
set_option maxHeartbeats 2000000 in
theorem cSquares (hp : tourP n xs) (h : Rd w sl xs) : Calls Tryz.prog 14 #[.agg #[.int .i64 n, sl]] w fun e w' => e = .returned (.int .i64 (sqK xs n : Nat)) ∧ Below w.heap.size w w' := by
  have HR := Lib.hid h
  obtain ⟨A, cA, rfl, -, -, -⟩ := h
  rw [tour_len hp] at *
  have HP := Lib.hid hp
  have HL := Lib.hid (tour_len hp)
  have h8 : n ≤ 8 := by have := hp.1; omega
  clear hp
  go_enter Tryz.func14, Tryz.ntmps14
  go_wp2_with fail
  have b0 := below_alloc1 w (.cells #[.int .i64 n, .slice A n cA] 25)
  have x0 := TBox.new w n (.slice A n cA) 25
  generalize w.alloc (.cells #[.int .i64 n, .slice A n cA] 25) = w0 at *
  have HX0 := Lib.hid x0
  have HB0 := Lib.hid b0
  clear x0 b0
  have y0_0 := HX0.out.1
  have y1_0 := HX0.out.2
  go_wp2_with fail
  refine (implTourOk n _ xs _ (HR.out.below HB0.out)).mono ?_
  rintro e w1 ⟨rfl, hb⟩
  rw [tourB_true.2 HP.out]
  have HB1 := Lib.hid (Below.then HB0.out hb)
  have HX1 := Lib.hid (HX0.out.below hb)
  clear hb y0_0 y1_0 HX0 HB0
  have y0_1 := HX1.out.1
  have y1_1 := HX1.out.2
  go_wp2
  go_loopw [3, 10] (fun t3 t10 wr => ∃ k : Nat, k ≤ n ∧ t10 = .int .i64 k ∧ t3 = .int .i64 (sqK xs k : Nat) ∧ Hid (TBox wr w.heap.size n (.slice A n cA)) ∧ Hid (Below w.heap.size w wr)) (fun _ t10 _ => n - (intOf t10).toNat)
  case atStart => exact ⟨0, by omega, rfl, rfl, HX1, HB1⟩
  case round =>
    obtain ⟨wa, rfl⟩ : ∃ x, x = wr := ⟨_, rfl⟩
    obtain ⟨k, hk, rfl, rfl, HX, HB⟩ := hrel
    clear HX1 HB1 y0_1 y1_1
    by_cases hlt : k < n
    · as_aux_lemma =>
      have y0_0 := HX.out.1
      have y1_0 := HX.out.2
      have k1 := quiet_below (w := wa) (fun W hW => score_any n _ xs k W ((HR.out.below HB.out).below hW) HP.out (by rw [HL.out]; exact hlt))
      have HS := Lib.hid (sqK_succ xs k)
      have hle := sqK_le xs k
      have hs8 := popN_le 8 (winsN xs k)
      have hss : popN 8 (winsN xs k) * popN 8 (winsN xs k) ≤ 8 * 8 := Nat.mul_le_mul hs8 hs8
      generalize popN 8 (winsN xs k) = s at *
      obtain ⟨q, hq⟩ : ∃ q, q = s * s := ⟨_, rfl⟩
      rw [← hq] at HS hss
      have em : wrap64 ((s : Int) * (s : Int)) = (q : Int) := by
        have : (s : Int) * (s : Int) = (q : Int) := by rw [hq, Int.natCast_mul]
        rw [this]; exact IntWalk.wrap64_in _ (by omega)
      have em2 : IntKind.i64.wrap ((s : Int) * (s : Int)) = (q : Int) := by
        have : (s : Int) * (s : Int) = (q : Int) := by rw [hq, Int.natCast_mul]
        rw [this]; exact IntWalk.i64_in _ (by omega)
      clear hq
      generalize sqK xs k = T at *
      go_wp2_with fail
      have y0_q := cell_regrown y0_0
      have y1_q := cell_regrown y1_0
      clear y0_0 y1_0
      refine wp_region_below (by kernel_rfl) (by kernel_rfl) ?_
      repeat (go_big_quiet_step (first | (with_reducible exact k1 _ _)))
      refine wpQuiet_nil ?_
      intro wq hbq0
      have hbq := Lib.hid hbq0
      clear hbq0
      clear y0_q y1_q
      go_wp2
      go_roundw
      case rel => exact ⟨k + 1, by omega, by go_num, by rw [HS.out]; go_num, Lib.hid (HX.out.below hbq.out), Lib.hid (Below.then HB.out hbq.out)⟩
      case measure => simp [intOf]; omega
    · as_aux_lemma =>
      obtain rfl : k = n := by omega
      go_wp2
      go_ret
      exact ⟨rfl, HB.out⟩
/-- the first of the greatest transitive sets below S -/
noncomputable def ltK (xs : List Int) : Nat → Nat
  | 0 => 0
  | S + 1 => if popN 8 (ltK xs S) < popN 8 S ∧ trN xs S = true then S else ltK xs S
theorem ltK_lt (xs : List Int) : ∀ S, ltK xs S < S ∨ ltK xs S = 0 := by
  intro S
  induction S with
  | zero => exact .inr rfl
  | succ S ih =>
    rw [ltK]
    split
    · exact .inl (Nat.lt_succ_self _)
    · rcases ih with h | h
      · exact .inl (by omega)
      · exact .inr h
set_option maxHeartbeats 2000000 in
theorem cLargest (hp : tourP n xs) (h : Rd w sl xs) : Calls Tryz.prog 13 #[.agg #[.int .i64 n, sl]] w fun e w' => e = .returned (.int .i64 (ltK xs (2 ^ n) : Nat)) ∧ Below w.heap.size w w' := by
  have HR := Lib.hid h
  obtain ⟨A, cA, rfl, -, -, -⟩ := h
  rw [tour_len hp] at *
  have HP := Lib.hid hp
  have h8 : n ≤ 8 := by have := hp.1; omega
  have hshl : wrap64 (2 ^ n) = ((2 ^ n : Nat) : Int) := shl_nat n (by omega)
  have hP8 := pow_le h8
  have hP1 := Nat.two_pow_pos n
  obtain ⟨p, hpe⟩ : ∃ p, p = 2 ^ n := ⟨_, rfl⟩
  have HPE := Lib.hid hpe
  rw [← hpe] at hshl hP8 hP1 ⊢
  clear hpe
  clear hp
  go_enter Tryz.func13, Tryz.ntmps13
  go_wp2_with fail
  have b0 := below_alloc1 w (.cells #[.int .i64 n, .slice A n cA] 25)
  have x0 := TBox.new w n (.slice A n cA) 25
  generalize w.alloc (.cells #[.int .i64 n, .slice A n cA] 25) = w0 at *
  have HX0 := Lib.hid x0
  have HB0 := Lib.hid b0
  clear x0 b0
  have y0_0 := HX0.out.1
  have y1_0 := HX0.out.2
  go_wp2_with fail
  refine (implTourOk n _ xs _ (HR.out.below HB0.out)).mono ?_
  rintro e w1 ⟨rfl, hb⟩
  rw [tourB_true.2 HP.out]
  have HB1 := Lib.hid (Below.then HB0.out hb)
  have HX1 := Lib.hid (HX0.out.below hb)
  clear hb y0_0 y1_0 HX0 HB0
  have h01 : ltK xs 1 = 0 := by
    rw [ltK]
    split
    · rfl
    · rfl
  have H01 := Lib.hid h01
  clear h01
  go_wp2
  go_loopw [3, 4] (fun t3 t4 wr => ∃ S : Nat, 1 ≤ S ∧ S ≤ p ∧ t4 = .int .i64 S ∧ t3 = .int .i64 (ltK xs S : Nat) ∧ Hid (TBox wr w.heap.size n (.slice A n cA)) ∧ Hid (Below w.heap.size w wr)) (fun _ t4 _ => p - (intOf t4).toNat)
  case atStart => exact ⟨1, by omega, by omega, rfl, by rw [H01.out]; rfl, HX1, HB1⟩
  case round =>
    obtain ⟨wa, rfl⟩ : ∃ x, x = wr := ⟨_, rfl⟩
    obtain ⟨S, hS1, hSp, rfl, rfl, HX, HB⟩ := hrel
    clear HX1 HB1
    have HST : Hid (ltK xs (S + 1) = if popN 8 (ltK xs S) < popN 8 S ∧ trN xs S = true then S else ltK xs S) := rfl
    have hL := ltK_lt xs S
    have y0 := HX.out.1
    have y1 := HX.out.2
    by_cases hlt : S < p
    · as_aux_lemma =>
      have hS256 : S < 256 := by omega
      generalize hLe : ltK xs S = L at *
      have hL256 : L < 256 := by omega
      go_wp2_with fail
      refine (ones_any S _ hS256).mono ?_
      rintro e w3 ⟨rfl, rfl⟩
      go_wp2_with fail
      refine (ones_any L _ hL256).mono ?_
      rintro e w3 ⟨rfl, rfl⟩
      by_cases hpop : popN 8 L < popN 8 S
      · as_aux_lemma =>
        have hd : decide (((popN 8 L : Nat) : Int) < ((popN 8 S : Nat) : Int)) = true := decide_eq_true (by omega)
        have hd2 : decide (popN 8 L < popN 8 S) = true := decide_eq_true hpop
        have HPO := Lib.hid hpop
        generalize popN 8 L = a at *
        generalize popN 8 S = b at *
        go_wp2_with fail
        refine (trOn_any n _ xs S _ (HR.out.below HB.out) HP.out hS1 (by rw [← HPE.out]; exact hlt)).mono ?_
        rintro e w4 ⟨rfl, hb4⟩
        have HX4 := Lib.hid (HX.out.below hb4)
        have HB4 := Lib.hid (Below.then HB.out hb4)
        clear hb4 HX HB y0 y1
        rcases qt : trN xs S with _ | _
        · have HE : Hid (ltK xs (S + 1) = L) := Lib.hid (by rw [HST.out, if_neg (by rw [qt]; simp)])
          clear qt
          have y0 := HX4.out.1
          go_wp2
          go_roundw
          case rel => exact ⟨S + 1, by omega, by omega, by go_num, by rw [HE.out], HX4, HB4⟩
          case measure => simp [intOf]; omega
        · have HE : Hid (ltK xs (S + 1) = S) := Lib.hid (by rw [HST.out, if_pos ⟨HPO.out, qt⟩])
          clear qt
          have y0 := HX4.out.1
          go_wp2
          go_roundw
          case rel => exact ⟨S + 1, by omega, by omega, by go_num, by rw [HE.out], HX4, HB4⟩
          case measure => simp [intOf]; omega
      · as_aux_lemma =>
        have hd : decide (((popN 8 L : Nat) : Int) < ((popN 8 S : Nat) : Int)) = false := decide_eq_false (by omega)
        have hd2 : decide (popN 8 L < popN 8 S) = false := decide_eq_false hpop
        have HE : Hid (ltK xs (S + 1) = L) := Lib.hid (by rw [HST.out, if_neg (fun h => hpop h.1)])
        generalize popN 8 L = a at *
        generalize popN 8 S = b at *
        go_wp2
        go_roundw
        case rel => exact ⟨S + 1, by omega, by omega, by go_num, by rw [HE.out], HX, HB⟩
        case measure => simp [intOf]; omega
    · as_aux_lemma =>
      obtain rfl : S = p := by omega
      go_wp2
      go_ret
      exact ⟨rfl, HB.out⟩
set_option maxHeartbeats 2000000 in
theorem cTransOrder0 (hp : tourP n xs) (h : Rd w sl xs) (hq : trB xs n = false) : Calls Tryz.prog 8 #[.agg #[.int .i64 n, sl]] w fun e w' => e = .returned (.tuple #[.slice none 0 0, .bool false]) ∧ Below w.heap.size w w' := by
  have HR := Lib.hid h
  obtain ⟨A, cA, rfl, -, -, -⟩ := h
  rw [tour_len hp] at *
  have HP := Lib.hid hp
  have HQ := Lib.hid hq
  clear hp hq
  go_enter Tryz.func8, Tryz.ntmps8
  go_wp2_with fail
  have b0 := below_alloc1 w (.cells #[.int .i64 n, .slice A n cA] 25)
  have x0 := TBox.new w n (.slice A n cA) 25
  generalize w.alloc (.cells #[.int .i64 n, .slice A n cA] 25) = w0 at *
  have HX0 := Lib.hid x0
  have HB0 := Lib.hid b0
  clear x0 b0
  have y0_0 := HX0.out.1
  have y1_0 := HX0.out.2
  go_wp2_with fail
  refine (cTrans HP.out (HR.out.below HB0.out)).mono ?_
  rintro e w1 ⟨rfl, hb⟩
  rw [HQ.out]
  have HB1 := Lib.hid (Below.then HB0.out hb)
  have HX1 := Lib.hid (HX0.out.below hb)
  clear hb y0_0 y1_0 HX0 HB0
  have y0_1 := HX1.out.1
  have y1_1 := HX1.out.2
  go_wp2
  go_ret2
  exact ⟨rfl, HB1.out⟩
set_option maxHeartbeats 2000000 in
theorem cTransOrder1 (hp : tourP n xs) (h : Rd w sl xs) (hq : trB xs n = true) : Calls Tryz.prog 8 #[.agg #[.int .i64 n, sl]] w fun e w' => ∃ v, e = .returned (.tuple #[v, .bool true]) ∧ Own w' w.heap.size v (ordS xs) ∧ Below w.heap.size w w' := by
  have HR := Lib.hid h
  obtain ⟨A, cA, rfl, -, -, -⟩ := h
  rw [tour_len hp] at *
  have HP := Lib.hid hp
  have HQ := Lib.hid hq
  clear hp hq
  go_enter Tryz.func8, Tryz.ntmps8
  go_wp2_with fail
  have b0 := below_alloc1 w (.cells #[.int .i64 n, .slice A n cA] 25)
  have x0 := TBox.new w n (.slice A n cA) 25
  generalize w.alloc (.cells #[.int .i64 n, .slice A n cA] 25) = w0 at *
  have HX0 := Lib.hid x0
  have HB0 := Lib.hid b0
  clear x0 b0
  have y0_0 := HX0.out.1
  have y1_0 := HX0.out.2
  go_wp2_with fail
  refine (cTrans HP.out (HR.out.below HB0.out)).mono ?_
  rintro e w1 ⟨rfl, hb⟩
  rw [HQ.out]
  have HB1 := Lib.hid (Below.then HB0.out hb)
  have HX1 := Lib.hid (HX0.out.below hb)
  clear hb y0_0 y1_0 HX0 HB0
  have y0_1 := HX1.out.1
  have y1_1 := HX1.out.2
  go_wp2_with fail
  refine (byScore_any n _ xs HP.out _ (HR.out.below HB1.out)).mono ?_
  rintro e w2 ⟨v, rfl, ho, hb⟩
  have HB2 := Lib.hid (Below.then HB1.out hb)
  have HO2 := Lib.hid (ho.mono HB1.out.size)
  clear hb ho
  go_wp2
  go_ret2
  exact ⟨_, rfl, HO2.out, HB2.out⟩
end Go.Proofs.YtbkiedhaacapbaaGreat

namespace Go.Proofs.YtbkiedhaacapbaaGreat
open Go.Shelf
def lays189_ren : Go.Shelf.Ren := ⟨fun | 189 => 29 | 125 => 64 | 257 => 63 | 128 => 90 | 129 => 91 | 294 => 81 | 295 => 82 | 296 => 83 | 297 => 84 | 298 => 85 | 299 => 86 | 216 => 87 | 300 => 88 | 301 => 89 | 328 => 97 | 329 => 98 | 330 => 99 | 331 => 100 | 332 => 101 | 215 => 102 | 343 => 106 | n => n, fun | 28 => 23 | 3 => 3 | 46 => 48 | 0 => 0 | 51 => 70 | 53 => 72 | 4 => 4 | 183 => 81 | 182 => 80 | 131 => 84 | 5 => 5 | 9 => 9 | 218 => 89 | 222 => 93 | 228 => 99 | 229 => 100 | n => n, fun | n => n⟩
theorem lays189 : Go.Proofs.Lays.n189 Tryz.prog lays189_ren := {
  mixed := by kernel_rfl
  f125 := Tryz.func64.trans (congrArg some (by kernel_rfl))
  f128 := Tryz.func90.trans (congrArg some (by kernel_rfl))
  f129 := Tryz.func91.trans (congrArg some (by kernel_rfl))
  f189 := Tryz.func29.trans (congrArg some (by kernel_rfl))
  f215 := Tryz.func102.trans (congrArg some (by kernel_rfl))
  f216 := Tryz.func87.trans (congrArg some (by kernel_rfl))
  f257 := Tryz.func63.trans (congrArg some (by kernel_rfl))
  f294 := Tryz.func81.trans (congrArg some (by kernel_rfl))
  f295 := Tryz.func82.trans (congrArg some (by kernel_rfl))
  f296 := Tryz.func83.trans (congrArg some (by kernel_rfl))
  f297 := Tryz.func84.trans (congrArg some (by kernel_rfl))
  f298 := Tryz.func85.trans (congrArg some (by kernel_rfl))
  f299 := Tryz.func86.trans (congrArg some (by kernel_rfl))
  f300 := Tryz.func88.trans (congrArg some (by kernel_rfl))
  f301 := Tryz.func89.trans (congrArg some (by kernel_rfl))
  f328 := Tryz.func97.trans (congrArg some (by kernel_rfl))
  f329 := Tryz.func98.trans (congrArg some (by kernel_rfl))
  f330 := Tryz.func99.trans (congrArg some (by kernel_rfl))
  f331 := Tryz.func100.trans (congrArg some (by kernel_rfl))
  f332 := Tryz.func101.trans (congrArg some (by kernel_rfl))
  f343 := Tryz.func106.trans (congrArg some (by kernel_rfl))
  t0 := Tryz.underlying0
  a0 := Tryz.isAgg0
  z0 := Tryz.sizeOf0
  v0 := Tryz.zeroValue0
  t3 := Tryz.underlying3
  a3 := Tryz.isAgg3
  z3 := Tryz.sizeOf3
  v3 := Tryz.zeroValue3
  t4 := Tryz.underlying4
  a4 := Tryz.isAgg4
  z4 := Tryz.sizeOf4
  v4 := Tryz.zeroValue4
  t5 := Tryz.underlying5
  a5 := Tryz.isAgg5
  z5 := Tryz.sizeOf5
  v5 := Tryz.zeroValue5
  t9 := Tryz.underlying9
  a9 := Tryz.isAgg9
  z9 := Tryz.sizeOf9
  v9 := Tryz.zeroValue9
  t28 := Tryz.underlying23
  a28 := Tryz.isAgg23
  z28 := Tryz.sizeOf23
  v28 := Tryz.zeroValue23
  t46 := Tryz.underlying48
  a46 := Tryz.isAgg48
  z46 := Tryz.sizeOf48
  v46 := Tryz.zeroValue48
  t51 := Tryz.underlying70
  a51 := Tryz.isAgg70
  z51 := Tryz.sizeOf70
  v51 := Tryz.zeroValue70
  t53 := Tryz.underlying72
  a53 := Tryz.isAgg72
  z53 := Tryz.sizeOf72
  v53 := Tryz.zeroValue72
  t131 := Tryz.underlying84
  a131 := Tryz.isAgg84
  z131 := Tryz.sizeOf84
  v131 := Tryz.zeroValue84
  t182 := Tryz.underlying80
  a182 := Tryz.isAgg80
  z182 := Tryz.sizeOf80
  v182 := Tryz.zeroValue80
  t183 := Tryz.underlying81
  a183 := Tryz.isAgg81
  z183 := Tryz.sizeOf81
  v183 := Tryz.zeroValue81
  t218 := Tryz.underlying89
  a218 := Tryz.isAgg89
  z218 := Tryz.sizeOf89
  v218 := Tryz.zeroValue89
  t222 := Tryz.underlying93
  a222 := Tryz.isAgg93
  z222 := Tryz.sizeOf93
  v222 := Tryz.zeroValue93
  t228 := Tryz.underlying99
  a228 := Tryz.isAgg99
  z228 := Tryz.sizeOf99
  v228 := Tryz.zeroValue99
  t229 := Tryz.underlying100
  a229 := Tryz.isAgg100
  z229 := Tryz.sizeOf100
  v229 := Tryz.zeroValue100 }
open Go.Sort Go.RowKit in
theorem slices_Sort_int (blk off cap : Nat) (zs : List Int) (w : World) (hH : Holds (Value.int .i64) w blk off zs.toArray) (hblk : blk < w.heap.size) (hsz : zs.length < 4611686018427387904) :
    Calls Tryz.prog 29 #[.slice (some ⟨blk, off, none⟩) zs.length cap] w fun e w' =>
      e = .returned (.tuple #[]) ∧ ∃ n os, w' = grow (putRow (Value.int .i64) (Sort.ahead w n) blk off (zs.mergeSort fun x y => decide (x ≤ y)).toArray) os := Any.slices_Sort_int lays189 blk off cap zs w hH hblk hsz
end Go.Proofs.YtbkiedhaacapbaaGreat

namespace Go.Proofs.YtbkiedhaacapbaaGreat
open Go.RowKit Go.Sort
set_option maxRecDepth 100000
def srtL (xs : List Int) : List Int := xs.mergeSort fun x y => decide (x ≤ y)
theorem srtL_perm (xs : List Int) : (srtL xs).Perm xs := List.mergeSort_perm xs _
theorem srtL_sorted (xs : List Int) : (srtL xs).Pairwise (· ≤ ·) := by
  have := List.pairwise_mergeSort (le := fun x y : Int => decide (x ≤ y)) (fun a b c h1 h2 => by
    rw [decide_eq_true_eq] at *; omega) (fun a b => by
    rw [Bool.or_eq_true, decide_eq_true_eq, decide_eq_true_eq]; omega) xs
  exact this.imp fun h => by simpa using h
theorem toA_get (xs : List Int) {j : Nat} (_hj : j < xs.length) : xs.toArray[j]! = xs.getD j 0 := by
  simp [List.getD_eq_getElem?_getD, getElem!_def]
  cases xs[j]? <;> rfl
theorem sort_own (base g n c : Nat) (xs : List Int) (w : World) (h : Own w base (.slice (some ⟨g, 0, none⟩) n c) xs) (hl : xs.length = n) (h1 : 0 < n) (hn : n ≤ 1000) :
    Calls Tryz.prog 29 #[.slice (some ⟨g, 0, none⟩) n c] w fun e w' => e = .returned (.tuple #[]) ∧ Rd w' (.slice (some ⟨g, 0, none⟩) n c) (srtL xs) ∧ ∀ (B : Nat) (a : World), B ≤ base → Below B a w → Below B a w' := by
  obtain ⟨hx, hf⟩ := h.at0 hl h1
  have hlt := h.lt g rfl
  obtain ⟨A', c', e, hnc, hm, -⟩ := h.rd
  injection e with _ _ e3
  subst e3
  have hH : Holds (Value.int .i64) w g 0 xs.toArray := fun j hj => by
    have hj' : j < xs.length := by simpa using hj
    rw [Nat.zero_add, toA_get xs hj']
    exact ⟨hx j (by omega), hf j⟩
  have := slices_Sort_int g 0 c xs w hH hlt.2 (by omega)
  rw [hl] at this
  refine this.mono ?_
  rintro e w' ⟨rfl, m, os, rfl⟩
  have hsl : (srtL xs).length = n := by rw [(srtL_perm xs).length_eq, hl]
  refine ⟨rfl, ⟨_, c, by rw [hsl], by rw [hsl]; omega, hm, fun _ => ⟨g, 0, rfl, ?_, fun k hk => ?_⟩⟩, fun B a hB hb => ?_⟩
  · rw [size_grow]
    have hs : (putRow (Value.int .i64) (Sort.ahead w m) g 0 (srtL xs).toArray).heap.size = w.heap.size := by
      unfold putRow mapBlock
      simp [Sort.ahead]
    show g < (putRow (Value.int .i64) (Sort.ahead w m) g 0 (srtL xs).toArray).heap.size + os.size
    rw [hs]; omega
  · have hs : (putRow (Value.int .i64) (Sort.ahead w m) g 0 (srtL xs).toArray).heap.size = w.heap.size := by
      unfold putRow mapBlock
      simp [Sort.ahead]
    have hH2 : Holds (Value.int .i64) (Sort.ahead w m) g 0 xs.toArray := hH
    have h2 := cell?_putRow (Value.int .i64) (Sort.ahead w m) g 0 xs.toArray (srtL xs).toArray hH2 (by simp [hsl, hl]) k (by simpa using hk)
    rw [toA_get _ hk] at h2
    have h3 := cell?_grow (putRow (Value.int .i64) (Sort.ahead w m) g 0 (srtL xs).toArray) os ⟨g, 0 + k, none⟩ (by rw [hs]; exact hlt.2)
    exact h3.trans h2
  · have hs : (putRow (Value.int .i64) (Sort.ahead w m) g 0 (srtL xs).toArray).heap.size = w.heap.size := by
      unfold putRow mapBlock
      simp [Sort.ahead]
    have hge : B ≤ g := Nat.le_trans hB hlt.1
    refine ⟨hb.os, hb.tape, hb.output, ?_, fun k hk => ?_⟩
    · have := hb.size
      rw [size_grow]
      show a.heap.size ≤ (putRow (Value.int .i64) (Sort.ahead w m) g 0 (srtL xs).toArray).heap.size + os.size
      rw [hs]; omega
    · rw [← hb.block k hk]
      show ((putRow (Value.int .i64) (Sort.ahead w m) g 0 (srtL xs).toArray).heap ++ os)[k]? = w.heap[k]?
      rw [Array.getElem?_append_left (by rw [hs]; omega)]
      unfold putRow mapBlock
      have hkg : g ≠ k := by omega
      simp [Array.getElem?_modify, hkg, Sort.ahead]
variable {n : Nat} {sl : Value} {xs : List Int} {w : World}
set_option maxHeartbeats 1000000 in
theorem cSequence (hp : tourP n xs) (h : Rd w sl xs) : Calls Tryz.prog 6 #[.agg #[.int .i64 n, sl]] w fun e w' => ∃ g c, e = .returned (.slice (some ⟨g, 0, none⟩) n c) ∧ Rd w' (.slice (some ⟨g, 0, none⟩) n c) (srtL (scL xs n)) ∧ Below w.heap.size w w' := by
  have HR := Lib.hid h
  obtain ⟨A, cA, rfl, -, -, -⟩ := h
  rw [tour_len hp] at *
  have HP := Lib.hid hp
  have h8 : n ≤ 8 := by have := hp.1; omega
  have h1 : 1 ≤ n := by have := hp.1; omega
  have hsl : (scL xs n).length = n := by simp [scL]
  have HSL := Lib.hid hsl
  clear hp hsl
  go_enter Tryz.func6, Tryz.ntmps6
  go_wp2_with fail
  have b0 := below_alloc1 w (.cells #[.int .i64 n, .slice A n cA] 25)
  have x0 := TBox.new w n (.slice A n cA) 25
  generalize w.alloc (.cells #[.int .i64 n, .slice A n cA] 25) = w0 at *
  have HX0 := Lib.hid x0
  have HB0 := Lib.hid b0
  clear x0 b0
  have y0_0 := HX0.out.1
  have y1_0 := HX0.out.2
  go_wp2_with fail
  refine (scores_any n _ xs _ (HR.out.below HB0.out) HP.out).mono ?_
  rintro e w1 ⟨B, c, rfl, ho, hb⟩
  obtain ⟨g, c', e', -, -, -, -, -⟩ := ho.at_ HSL.out h1
  injection e' with e1 _ e3
  subst e1 e3
  have HO := Lib.hid ho
  have HB1 := Lib.hid (Below.then HB0.out hb)
  have hs0 := HB0.out.size
  have HBB := Lib.hid (fun (W : World) (hW : ∀ (B : Nat) (a : World), B ≤ w0.heap.size → Below B a w1 → Below B a W) => hW w.heap.size w hs0 HB1.out)
  clear ho hb
  go_wp2_with fail
  refine (sort_own w0.heap.size g n c (scL xs n) w1 HO.out HSL.out h1 (by omega)).mono ?_
  rintro e w2 ⟨rfl, hr, hb2⟩
  have HR2 := Lib.hid hr
  have HB2 := Lib.hid (HBB.out w2 hb2)
  clear hr hb2
  go_wp2
  go_ret
  exact ⟨g, c, rfl, HR2.out, HB2.out⟩
end Go.Proofs.YtbkiedhaacapbaaGreat

