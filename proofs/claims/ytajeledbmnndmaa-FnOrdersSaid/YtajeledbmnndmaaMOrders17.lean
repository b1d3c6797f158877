/- Texts put together: ShDel, DelO, ShIns, InsO, OrI, OrJ, OrK, OrM, OrN, OrQ, OrR. -/
import Derived.Ground.Names2Prog
import Derived.Shelf.Slices.Clone
import Derived.Shelf.Slices.Delete
import Derived.Shelf.Slices.Cells
import Derived.Shelf.Slices.Empties
import Derived.Test.YtajeledbmnndmaaMOrders01
import Derived.Test.YtajeledbmnndmaaMOrders02
import Derived.Shelf.Spec.SlicesInsert
import Derived.Shelf.Spec.SlicesInsertGrow
import Derived.Test.YtajeledbmnndmaaMOrders12
import Derived.Test.YtajeledbmnndmaaMOrders11
import Derived.Deep.LoopGhost
import Derived.Test.YtajeledbmnndmaaMOrders13
namespace Go.Proofs.Ytajeledbmnndmaa
open Go.Shelf
def laysNm215_ren : Go.Shelf.Ren := ⟨fun | 15 => 109 | n => n, fun | 22 => 22 | 3 => 3 | 4 => 4 | n => n, fun | n => n⟩
theorem laysNm215 : Go.Proofs.Lays2.n15 Try.prog laysNm215_ren := {
  mixed := by kernel_rfl
  f15 := Try.func109.trans (congrArg some (by kernel_rfl))
  t3 := Try.underlying3
  a3 := Try.isAgg3
  z3 := Try.sizeOf3
  v3 := Try.zeroValue3
  t4 := Try.underlying4
  a4 := Try.isAgg4
  z4 := Try.sizeOf4
  v4 := Try.zeroValue4
  t22 := Try.underlying22
  a22 := Try.isAgg22
  z22 := Try.sizeOf22
  v22 := Try.zeroValue22
  i3 := by kernel_rfl }
open Go.RowKit Go.Lib in
theorem slices_Clone_int (b off n c : Nat) (zs : List Int) (w : World) (hz : n ≤ zs.length) (hbig : n * 8 ≤ 140737488355328) (hc : ∀ j, j < zs.length → w.cell? ⟨b, off + j, none⟩ = some (.int .i64 (zs.getD j 0))) :
    Calls Try.prog 109 #[.slice (some ⟨b, off, none⟩) n c] w fun e w' => ∃ v', e = .returned v' ∧ w'.ownsRow w.heap.size 3 1 v' n ((zs.take n).map (Value.int .i64)) ∧ v' ≠ .slice none 0 0 ∧ Below w.heap.size w w' := Any.slices_Clone_int laysNm215 b off n c zs w hz hbig hc
open Go.RowKit Go.Lib in
theorem slices_Clone_int_nil (n c : Nat) (w : World) :
    Calls Try.prog 109 #[.slice none n c] w fun e w' => e = .returned (.slice none 0 0) ∧ w' = w := Any.slices_Clone_int_nil laysNm215 n c w
open Go.RowKit Go.Lib in
theorem slices_Clone_int_zero (a : Addr) (c : Nat) (w : World) :
    Calls Try.prog 109 #[.slice (some a) 0 c] w fun e w' => ∃ v', e = .returned v' ∧ w'.ownsRow w.heap.size 3 1 v' 0 [] ∧ v' ≠ .slice none 0 0 ∧ Below w.heap.size w w' := Any.slices_Clone_int_zero laysNm215 a c w
def laysNm223_ren : Go.Shelf.Ren := ⟨fun | 23 => 122 | n => n, fun | 22 => 22 | 3 => 3 | 4 => 4 | 0 => 0 | n => n, fun | n => n⟩
theorem laysNm223 : Go.Proofs.Lays2.n23 Try.prog laysNm223_ren := {
  mixed := by kernel_rfl
  f23 := Try.func122.trans (congrArg some (by kernel_rfl))
  t0 := Try.underlying0
  a0 := Try.isAgg0
  z0 := Try.sizeOf0
  v0 := Try.zeroValue0
  t3 := Try.underlying3
  a3 := Try.isAgg3
  z3 := Try.sizeOf3
  v3 := Try.zeroValue3
  t4 := Try.underlying4
  a4 := Try.isAgg4
  z4 := Try.sizeOf4
  v4 := Try.zeroValue4
  t22 := Try.underlying22
  a22 := Try.isAgg22
  z22 := Try.sizeOf22
  v22 := Try.zeroValue22
  i3 := by kernel_rfl }
open Go.RowKit Go.Lib Go.Sort in
theorem slices_Delete_int_arr (blk off cap i j : Nat) (d : Array Int) (w : World) (hH : Holds encI w blk off d) (hcap : d.size ≤ cap) (hm : cap ≤ 9223372036854775807) (hij : i ≤ j) (hj : j ≤ d.size) :
    Calls Try.prog 122 #[.slice (some ⟨blk, off, none⟩) d.size cap, .int .i64 i, .int .i64 j] w fun e w' => e = .returned (.slice (some ⟨blk, off, none⟩) (d.size - (j - i)) cap) ∧ ∃ q, w' = putRow encI (Sort.ahead w q) blk off (d.toList.take i ++ d.toList.drop j ++ List.replicate (j - i) 0).toArray := Any.slices_Delete_int_arr laysNm223 blk off cap i j d w hH hcap hm hij hj
open Go.RowKit Go.Lib Go.Sort in
theorem slices_Delete_int (blk off cap i j : Nat) (zs : List Int) (w : World) (hH : Holds (Value.int .i64) w blk off zs.toArray) (hcap : zs.length ≤ cap) (hm : cap ≤ 9223372036854775807) (hij : i ≤ j) (hj : j ≤ zs.length) :
    Calls Try.prog 122 #[.slice (some ⟨blk, off, none⟩) zs.length cap, .int .i64 i, .int .i64 j] w fun e w' => e = .returned (.slice (some ⟨blk, off, none⟩) (zs.length - (j - i)) cap) ∧ ∃ q, w' = putRow (Value.int .i64) (Sort.ahead w q) blk off (zs.take i ++ zs.drop j ++ List.replicate (j - i) 0).toArray := Any.slices_Delete_int laysNm223 blk off cap i j zs w hH hcap hm hij hj
open Go.RowKit Go.Lib Go.Sort in
theorem slices_Delete_int_cells (b off n c i j : Nat) (zs : List Int) (w : World) (hz : n ≤ zs.length) (hcap : n ≤ c) (hm : c ≤ 9223372036854775807) (hij : i ≤ j) (hj : j ≤ n) (hc : ∀ j, j < zs.length → w.cell? ⟨b, off + j, none⟩ = some (.int .i64 (zs.getD j 0))) (hf : ∀ j, j < n → w.frozen? ⟨b, off + j, none⟩ = false) :
    Calls Try.prog 122 #[.slice (some ⟨b, off, none⟩) n c, .int .i64 i, .int .i64 j] w fun e w' => e = .returned (.slice (some ⟨b, off, none⟩) (n - (j - i)) c) ∧ ∃ q, w' = (w.drewN q).setCells b off (((zs.take n).take i ++ (zs.take n).drop j ++ List.replicate (j - i) 0).map (Value.int .i64)) := Any.slices_Delete_int_cells laysNm223 b off n c i j zs w hz hcap hm hij hj hc hf
open Go.RowKit Go.Lib in
theorem slices_Delete_int_empty (a : Option Addr) (c : Nat) (w : World) :
    Calls Try.prog 122 #[.slice a 0 c, .int .i64 0, .int .i64 0] w fun e w' => e = .returned (.slice a 0 c) ∧ w' = w := Any.slices_Delete_int_empty laysNm223 a c w
end Go.Proofs.Ytajeledbmnndmaa

namespace Go.Proofs.Ytajeledbmnndmaa
open Go.RowKit Go.Sort
set_option maxRecDepth 100000
def putL (xs : List Int) : Nat → List Int → List Int
  | _, [] => xs
  | k, v :: r => putL (xs.set k v) (k + 1) r
theorem putL_eq : ∀ (vs : List Int) (k : Nat) (xs : List Int), k + vs.length ≤ xs.length → putL xs k vs = xs.take k ++ vs ++ xs.drop (k + vs.length) := by
  intro vs
  induction vs with
  | nil => intro k xs _; simp [putL]
  | cons v r ih =>
    intro k xs h
    simp only [List.length_cons] at h
    rw [putL, ih (k + 1) (xs.set k v) (by rw [List.length_set]; omega)]
    have hk : k < xs.length := by omega
    rw [List.take_succ_eq_append_getElem (by rw [List.length_set]; exact hk), List.getElem_set_self, List.take_set_of_le (Nat.le_refl k), List.drop_set_of_lt (by omega)]
    simp only [List.length_cons, List.append_assoc, List.cons_append, List.nil_append, show k + (r.length + 1) = k + 1 + r.length by omega]
theorem own_setCells {base g n c : Nat} : ∀ (vs : List Int) (k : Nat) (w : World) (xs : List Int), Own w base (.slice (some ⟨g, 0, none⟩) n c) xs → xs.length = n →
    Own (w.setCells g k (vs.map (Value.int .i64))) base (.slice (some ⟨g, 0, none⟩) n c) (putL xs k vs) ∧ ∀ (B : Nat) (a : World), B ≤ base → Below B a w → Below B a (w.setCells g k (vs.map (Value.int .i64))) := by
  intro vs
  induction vs with
  | nil => intro k w xs h _; exact ⟨h, fun _ _ _ h => h⟩
  | cons v r ih =>
    intro k w xs h hl
    obtain ⟨h1, h2⟩ := h.set_ hl k v
    obtain ⟨h3, h4⟩ := ih (k + 1) _ _ h1 (by rw [List.length_set]; exact hl)
    refine ⟨h3, fun B a hB hb => h4 B a hB ?_⟩
    have hg := (h.lt g rfl)
    exact hb.grown h2 (by omega) (fun q e => by injection e with e; omega)
theorem delete_own (base g n c i : Nat) (xs : List Int) (w : World) (h : Own w base (.slice (some ⟨g, 0, none⟩) n c) xs) (hl : xs.length = n) (hi : i < n) :
    Calls Try.prog 122 #[.slice (some ⟨g, 0, none⟩) n c, .int .i64 i, .int .i64 ((i + 1 : Nat) : Int)] w fun e w' => e = .returned (.slice (some ⟨g, 0, none⟩) (n - 1) c) ∧ Own w' base (.slice (some ⟨g, 0, none⟩) (n - 1) c) (xs.eraseIdx i) ∧ ∀ (B : Nat) (a : World), B ≤ base → Below B a w → Below B a w' := by
  obtain ⟨g', c', e, hbg, hm, hnc, hc, hf⟩ := h.at_ hl (by omega)
  injection e with e1 _ e2
  injection e1 with e1
  injection e1 with e1 _ _
  subst e1 e2
  unfold maxLen at hm
  refine (slices_Delete_int_cells g 0 n c i (i + 1) xs w (by omega) hnc (by omega) (by omega) (by omega) (fun j hj => by rw [Nat.zero_add]; exact hc j (by omega)) (fun j _ => hf _)).mono ?_
  rintro e w' ⟨rfl, q, rfl⟩
  have hL : (xs.take n).take i ++ (xs.take n).drop (i + 1) ++ List.replicate (i + 1 - i) 0 = xs.eraseIdx i ++ [0] := by
    have ex : xs.take n = xs := List.take_of_length_le (by omega)
    rw [ex, show i + 1 - i = 1 by omega, List.eraseIdx_eq_take_drop_succ]
    rfl
  rw [hL]
  have hlen : (xs.eraseIdx i ++ [0]).length = n := by rw [List.length_append, List.length_eraseIdx_of_lt (by omega), List.length_singleton]; omega
  obtain ⟨h1, h2⟩ := own_setCells (xs.eraseIdx i ++ [0]) 0 (w.drewN q) xs (h.drewN q) hl
  rw [putL_eq _ _ _ (by omega), List.take_zero, List.nil_append, hlen, Nat.zero_add, List.drop_of_length_le (by omega), List.append_nil] at h1
  refine ⟨by rw [show n - (i + 1 - i) = n - 1 by omega], ?_, fun B a hB hb => h2 B a hB (below_drewN hb q)⟩
  obtain ⟨m, rfl⟩ : ∃ m, n = m + 1 := ⟨n - 1, by omega⟩
  exact own_prefix (by rw [List.length_eraseIdx_of_lt (by omega)]; omega) h1
end Go.Proofs.Ytajeledbmnndmaa

namespace Go.Proofs.Ytajeledbmnndmaa
open Go.Shelf
def laysNm221_ren : Go.Shelf.Ren := ⟨fun | 21 => 100 | 27 => 136 | 28 => 137 | 35 => 148 | 39 => 134 | n => n, fun | 22 => 22 | 3 => 3 | 4 => 4 | 0 => 0 | n => n, fun | n => n⟩
theorem laysNm221 : Go.Proofs.Lays2.n21 Try.prog laysNm221_ren := {
  mixed := by kernel_rfl
  f21 := Try.func100.trans (congrArg some (by kernel_rfl))
  f27 := Try.func136.trans (congrArg some (by kernel_rfl))
  f28 := Try.func137.trans (congrArg some (by kernel_rfl))
  f35 := Try.func148.trans (congrArg some (by kernel_rfl))
  f39 := Try.func134.trans (congrArg some (by kernel_rfl))
  t0 := Try.underlying0
  a0 := Try.isAgg0
  z0 := Try.sizeOf0
  v0 := Try.zeroValue0
  t3 := Try.underlying3
  a3 := Try.isAgg3
  z3 := Try.sizeOf3
  v3 := Try.zeroValue3
  t4 := Try.underlying4
  a4 := Try.isAgg4
  z4 := Try.sizeOf4
  v4 := Try.zeroValue4
  t22 := Try.underlying22
  a22 := Try.isAgg22
  z22 := Try.sizeOf22
  v22 := Try.zeroValue22
  i3 := by kernel_rfl }
end Go.Proofs.Ytajeledbmnndmaa

namespace Go.Proofs.Ytajeledbmnndmaa
open Go.RowKit Go.Sort
set_option maxRecDepth 100000
def putV (xs : List Value) : Nat → List Value → List Value
  | _, [] => xs
  | k, v :: r => putV (xs.set k v) (k + 1) r
theorem putV_len : ∀ (vs : List Value) (k : Nat) (xs : List Value), (putV xs k vs).length = xs.length := by
  intro vs
  induction vs with
  | nil => intro k xs; rfl
  | cons v r ih => intro k xs; rw [putV, ih, List.length_set]
theorem putV_eq : ∀ (vs : List Value) (k : Nat) (xs : List Value), k + vs.length ≤ xs.length → putV xs k vs = xs.take k ++ vs ++ xs.drop (k + vs.length) := by
  intro vs
  induction vs with
  | nil => intro k xs _; simp [putV]
  | cons v r ih =>
    intro k xs h
    simp only [List.length_cons] at h
    rw [putV, ih (k + 1) (xs.set k v) (by rw [List.length_set]; omega)]
    have hk : k < xs.length := by omega
    rw [List.take_succ_eq_append_getElem (by rw [List.length_set]; exact hk), List.getElem_set_self, List.take_set_of_le (Nat.le_refl k), List.drop_set_of_lt (by omega)]
    simp only [List.length_cons, List.append_assoc, List.cons_append, List.nil_append, show k + (r.length + 1) = k + 1 + r.length by omega]
theorem grownT {a b c : World} {row : Option Nat} (h : a.grownBy b row) (k : b.grownBy c row) : a.grownBy c row :=
  ⟨k.os.trans h.os, k.tape.trans h.tape, k.output.trans h.output, Nat.le_trans h.size k.size, fun i hi hne => (k.block i (Nat.lt_of_lt_of_le hi h.size) hne).trans (h.block i hi hne)⟩
theorem owns_setCells {base g n c : Nat} {e : TypeId} : ∀ (vs : List Value) (k : Nat) (w : World) (xs : List Value), w.ownsRow base e 1 (.slice (some ⟨g, 0, none⟩) n c) n xs →
    (w.setCells g k vs).ownsRow base e 1 (.slice (some ⟨g, 0, none⟩) n c) n (putV xs k vs) ∧ w.grownBy (w.setCells g k vs) (some g) := by
  intro vs
  induction vs with
  | nil => intro k w xs h; exact ⟨h, ⟨rfl, rfl, rfl, Nat.le_refl _, fun _ _ _ => rfl⟩⟩
  | cons v r ih =>
    intro k w xs h
    have h1 := World.ownsRow.stored h k v
    have h2 := ih (k + 1) _ _ h1.1
    exact ⟨h2.1, grownT h1.2 h2.2⟩
/-- the row one cell longer, whatever stands there -/
theorem owns_more {w : World} {base g n c : Nat} {e : TypeId} {xs : List Value} (h : w.ownsRow base e 1 (.slice (some ⟨g, 0, none⟩) n c) n xs) (hc : n + 1 ≤ c) : ∃ u, w.ownsRow base e 1 (.slice (some ⟨g, 0, none⟩) (n + 1) c) (n + 1) (xs ++ [u]) := by
  obtain ⟨hl, ⟨h0, _⟩ | ⟨g', cap, cur, e1, hb, hg, hle, hm, hs, ht⟩⟩ := h
  · cases h0
  · injection e1 with e1 _ e3
    injection e1 with e1
    injection e1 with e1 _ _
    subst e1 e3
    rw [Nat.mul_one] at hl hs ht
    have hlt : n < cur.toList.length := by rw [Array.length_toList]; omega
    refine ⟨cur.toList[n], ⟨by rw [List.length_append, hl]; simp, .inr ⟨g, c, cur, rfl, hb, hg, hc, hm, by rw [Nat.mul_one]; exact hs, ?_⟩⟩⟩
    rw [Nat.mul_one, List.take_succ_eq_append_getElem hlt, ht]
/-- a new block whose first cells are these -/
theorem owns_new {w : World} {base n c : Nat} {e : TypeId} {cur : Array Value} {xs : List Value} (hb : base ≤ w.heap.size) (hn : n ≤ c) (hm : c ≤ maxLen) (hs : cur.size = c) (hx : cur.toList.take n = xs) :
    (w.alloc (.cells cur e)).ownsRow base e 1 (.slice (some ⟨w.heap.size, 0, none⟩) n c) n xs :=
  ⟨by rw [← hx, List.length_take, Array.length_toList]; omega, .inr ⟨w.heap.size, c, cur, rfl, hb, heap_alloc_new w _, hn, hm, by rw [Nat.mul_one]; exact hs, by rw [Nat.mul_one]; exact hx⟩⟩
theorem alloc_grown (w : World) (o : Obj) (row : Option Nat) : w.grownBy (w.alloc o) row := World.grownBy_alloc w o row
theorem drew_grown (w : World) (row : Option Nat) : w.grownBy w.drew row := ⟨rfl, rfl, rfl, Nat.le_refl _, fun _ _ _ => rfl⟩
theorem zero_size (k : Nat) : (Builtin.zeroCells (Value.int .i64 0).cells k).size = k := by
  rw [size_zeroCells]
  show k * 1 = k
  omega
theorem insL_eq (cs : List Value) (u y : Value) {n i : Nat} (hl : cs.length = n) (hi : i ≤ n) : putV (putV (cs ++ [u]) (i + 1) (cs.drop i)) i [y] = cs.take i ++ y :: cs.drop i := by
  have hd : (cs.drop i).length = n - i := by rw [List.length_drop, hl]
  have e0 : putV (cs ++ [u]) (i + 1) (cs.drop i) = (cs ++ [u]).take (i + 1) ++ cs.drop i := by
    rw [putV_eq _ _ _ (by rw [hd, List.length_append, hl, List.length_singleton]; omega)]
    have e1 : (cs ++ [u]).drop (i + 1 + (cs.drop i).length) = [] := by
      rw [List.drop_eq_nil_iff, List.length_append, hd, hl, List.length_singleton]; omega
    rw [e1, List.append_nil]
  have hA : ((cs ++ [u]).take (i + 1)).length = i + 1 := by rw [List.length_take, List.length_append, hl, List.length_singleton]; omega
  rw [e0, putV_eq _ _ _ (by rw [List.length_append, hA, hd, List.length_singleton]; omega)]
  have e2 : ((cs ++ [u]).take (i + 1) ++ cs.drop i).take i = cs.take i := by
    have h1 : i ≤ ((cs ++ [u]).take (i + 1)).length := by omega
    have h2 : i ≤ cs.length := by omega
    rw [List.take_append_of_le_length h1, List.take_take, Nat.min_eq_left (Nat.le_succ i), List.take_append_of_le_length h2]
  have e3 : ((cs ++ [u]).take (i + 1) ++ cs.drop i).drop (i + [y].length) = cs.drop i := by
    have h1 : i + [y].length = ((cs ++ [u]).take (i + 1)).length := by rw [hA]; rfl
    rw [h1, List.drop_left]
  rw [e2, e3]
  simp
theorem insL_eq2 (cs zs : List Value) (y : Value) {n i : Nat} (hl : cs.length = n) (hi : i ≤ n) (hz : zs.length = n + 1 - i) : putV (putV (cs.take i ++ zs) i [y]) (i + 1) (cs.drop i) = cs.take i ++ y :: cs.drop i := by
  have hci : (cs.take i).length = i := by rw [List.length_take]; omega
  rw [putV_eq [y] _ _ (by simp; omega)]
  rw [show i + [y].length = i + 1 from rfl]
  have e1 : (cs.take i ++ zs).take i = cs.take i := by rw [List.take_append_of_le_length (by omega), List.take_of_length_le (by omega)]
  rw [e1]
  have hlen : (cs.take i ++ [y] ++ (cs.take i ++ zs).drop (i + 1)).length = n + 1 := by
    simp only [List.length_append, List.length_drop, List.length_take, List.length_singleton]; omega
  rw [putV_eq _ _ _ (by rw [hlen, List.length_drop]; omega)]
  have e2 : (cs.take i ++ [y] ++ (cs.take i ++ zs).drop (i + 1)).drop (i + 1 + (cs.drop i).length) = [] := by
    rw [List.drop_eq_nil_iff, hlen, List.length_drop]; omega
  rw [e2, List.append_nil, List.take_append_of_le_length (by simp; omega), List.take_of_length_le (by simp; omega)]
  simp
theorem insN_map (xs : List Int) (y : Int) (i : Nat) : (xs.take i ++ y :: xs.drop i).map (Value.int .i64) = (xs.map (Value.int .i64)).take i ++ Value.int .i64 y :: (xs.map (Value.int .i64)).drop i := by
  rw [List.map_append, List.map_cons, List.map_take, List.map_drop]
theorem ins_len (xs : List Int) (y : Int) {n i : Nat} (hl : xs.length = n) (hi : i ≤ n) : (xs.take i ++ y :: xs.drop i).length = n + 1 := by
  simp; omega
set_option maxHeartbeats 2000000 in
theorem insert_own (base : Nat) (v : Value) (xs : List Int) (n i : Nat) (y : Int) (w : World) (h : Own w base v xs) (hl : xs.length = n) (hi : i ≤ n) (hn : n ≤ 1000) (hbase : base ≤ w.heap.size) :
    Calls Try.prog 100 #[v, .int .i64 i, .slice (some ⟨w.heap.size, 0, none⟩) 1 1] (w.alloc (.cells #[.int .i64 y] 3)) fun e w' => ∃ A c, e = .returned (.slice A (n + 1) c) ∧ Own w' base (.slice A (n + 1) c) (xs.take i ++ y :: xs.drop i) ∧ w.grownBy w' v.ownBlock ∧
      ∀ r, (Value.slice A (n + 1) c).ownBlock = some r → v.ownBlock = some r ∨ w.heap.size ≤ r := by
  obtain ⟨W, hW⟩ : ∃ W, W = w.alloc (.cells #[.int .i64 y] 3) := ⟨_, rfl⟩
  have hnew : W.heap[w.heap.size]? = some (.cells #[.int .i64 y] 3 (0, 0)) := by rw [hW]; exact heap_alloc_new w _
  have hWs : W.heap.size = w.heap.size + 1 := by rw [hW]; simp
  have hcy : ∀ j u, [Value.int .i64 y][j]? = some u → W.cell? ⟨w.heap.size, 0 + j, none⟩ = some u := by
    intro j u hj
    match j, hj with
    | 0, hj => simp at hj; subst hj; rw [hW]; simp
  have h1v : ∀ u ∈ [Value.int .i64 y], u.oneCell' = true := by intro u hu; simp at hu; subst hu; rfl
  have h1c : ∀ u ∈ xs.map (Value.int .i64), u.oneCell' = true := by
    intro u hu
    obtain ⟨x, -, rfl⟩ := List.mem_map.1 hu
    rfl
  have hOwn : W.ownsRow base 3 1 v xs.length (xs.map (Value.int .i64)) := by rw [hW]; exact World.ownsRow.alloc h _
  have hwW : w.grownBy W v.ownBlock := by rw [hW]; exact alloc_grown _ _ _
  have hcl : (xs.map (Value.int .i64)).length = n := by rw [List.length_map]; exact hl
  have fin : ∀ {w' : World} {A : Option Addr} {c : Nat}, w'.ownsRow base 3 1 (.slice A (n + 1) c) (n + 1) ((xs.map (Value.int .i64)).take i ++ Value.int .i64 y :: (xs.map (Value.int .i64)).drop i) → Own w' base (.slice A (n + 1) c) (xs.take i ++ y :: xs.drop i) := fun {w' A c} hh => by
    unfold Own
    rw [insN_map, ins_len xs y hl hi]
    exact hh
  rw [← hW]
  rw [hl] at hOwn
  have hm : n + 1 ≤ maxLen := by unfold maxLen; omega
  rcases hOwn.2 with ⟨rfl, h0⟩ | ⟨g, cap, cur, rfl, hbg, hg, hle, hcm, hs, ht⟩
  · -- the nil slice
    subst h0
    obtain rfl : i = 0 := by omega
    have hx : xs = [] := List.eq_nil_of_length_eq_zero hl
    subst hx
    refine (Any2.slices_Insert_int_end_grow laysNm221 none 0 0 w.heap.size 0 1 1 [] [.int .i64 y] W (by omega) (by omega) (by omega) (by omega) rfl rfl (fun _ => rfl) (fun a ha => by cases ha) hcy h1v).mono ?_
    rintro e w' ⟨rfl, rfl⟩
    refine ⟨_, _, rfl, fin ?_, grownT hwW (grownT (drew_grown _ _) (alloc_grown _ _ _)), fun r hr => ?_⟩
    · have hge := grownCap_ge W (0 + 1) 0 3
      refine owns_new (w := W.drew) (by show base ≤ W.heap.size; omega) hge (grownCap_le_maxLen _ _ _ _ hm) ?_ ?_
      · rw [Array.size_append, zero_size]
        show 1 + (grownCap W (0 + 1) 0 3 - (0 + 1)) = grownCap W (0 + 1) 0 3
        omega
      · simp
    · right
      simp [Value.ownBlock] at hr
      omega
  · have hgW := World.ownsRow.cells hOwn (g := g) rfl
    have hcs : ∀ j u, (xs.map (Value.int .i64))[j]? = some u → W.cell? ⟨g, 0 + j, none⟩ = some u := fun j u hj => by
      have := hgW j u hj
      rw [Addr.add_lit] at this
      exact this
    have hglt : g < w.heap.size := (h.lt g rfl).2
    rw [Nat.mul_one] at hs
    have hcell : ∀ j, j < cap → (W.cell? ⟨g, j, none⟩).isSome = true := fun j hj => by
      have hj2 : j < cur.size := by omega
      simp [World.cell?, hg, hj2]
    have hfrz : ∀ j, W.frozen? ⟨g, j, none⟩ = false := fun j => by simp [World.frozen?, hg]
    by_cases hroom : n + 1 ≤ cap
    · obtain ⟨u, hu⟩ := owns_more hOwn hroom
      by_cases hin : i = n
      · subst hin
        refine (Any2.slices_Insert_int_end_room laysNm221 g 0 i cap w.heap.size 0 1 1 [.int .i64 y] W (by omega) hroom (by unfold maxLen at hcm; omega) rfl (fun j hj => by rw [show 0 + i + j = i by omega]; exact hcell i (by omega)) (fun j _ => hfrz _) hcy h1v).mono ?_
        rintro e w' ⟨rfl, rfl⟩
        obtain ⟨k1, k2⟩ := owns_setCells [.int .i64 y] (0 + i) W _ hu
        refine ⟨_, _, rfl, fin ?_, grownT hwW k2, fun r hr => .inl hr⟩
        have e1 : putV ((xs.map (Value.int .i64)) ++ [u]) (0 + i) [.int .i64 y] = (xs.map (Value.int .i64)).take i ++ Value.int .i64 y :: (xs.map (Value.int .i64)).drop i := by
          rw [Nat.zero_add, putV_eq _ _ _ (by simp; omega), List.take_append_of_le_length (by omega), show i + [Value.int .i64 y].length = i + 1 from rfl, List.drop_of_length_le (by simp; omega), List.drop_of_length_le (by omega), List.append_nil]
        rwa [e1] at k1
      · refine (Any2.slices_Insert_int_shift laysNm221 g 0 n cap i w.heap.size 0 1 1 (xs.map (Value.int .i64)) [.int .i64 y] W (by omega) (by omega) hroom (by unfold maxLen at hcm; omega) (by omega) hcl rfl hcs (fun j hj => by rw [Nat.zero_add]; exact hcell j (by omega)) (fun j _ => hfrz _) hcy h1c h1v 3 3 1 cur.size ?_ ?_ (by omega) ?_ ?_).mono ?_
        · simp [World.shape?, hnew]
        · simp [World.shape?, hg]
        · simp [World.frozen?, hnew]
        · simp [World.frozen?, hnew]
        · rintro e w' ⟨rfl, rfl⟩
          obtain ⟨k1, k2⟩ := owns_setCells ((xs.map (Value.int .i64)).drop i) (0 + (i + 1)) W.drew _ (World.ownsRow.drew hu)
          obtain ⟨k3, k4⟩ := owns_setCells [.int .i64 y] (0 + i) _ _ k1
          refine ⟨_, _, rfl, fin ?_, grownT hwW (grownT (drew_grown _ _) (grownT k2 k4)), fun r hr => .inl hr⟩
          rw [Nat.zero_add, Nat.zero_add, insL_eq _ _ _ hcl hi] at k3
          rw [Nat.zero_add, Nat.zero_add]
          exact k3
    · by_cases hin : i = n
      · subst hin
        refine (Any2.slices_Insert_int_end_grow laysNm221 (some ⟨g, 0, none⟩) i cap w.heap.size 0 1 1 (xs.map (Value.int .i64)) [.int .i64 y] W (by omega) hle (by omega) (by omega) hcl rfl (fun h => by cases h) (fun a ha j u hj => by injection ha with ha; subst ha; exact hgW j u hj) hcy h1v).mono ?_
        rintro e w' ⟨rfl, rfl⟩
        refine ⟨_, _, rfl, fin ?_, grownT hwW (grownT (drew_grown _ _) (alloc_grown _ _ _)), fun r hr => ?_⟩
        · have hge := grownCap_ge W (i + 1) cap 3
          refine owns_new (w := W.drew) (by show base ≤ W.heap.size; omega) hge (grownCap_le_maxLen _ _ _ _ hm) ?_ ?_
          · rw [Array.size_append, zero_size]
            simp only [List.size_toArray, List.length_append, List.length_map, List.length_singleton]
            show xs.length + 1 + (grownCap W (i + 1) cap 3 - (i + 1)) = grownCap W (i + 1) cap 3
            omega
          · rw [Array.toList_append, List.take_append_of_le_length (by simp; omega), List.take_of_length_le (by simp; omega), List.take_of_length_le (by omega), List.drop_of_length_le (by omega)]
        · right
          simp [Value.ownBlock] at hr
          omega
      · refine (Any2.slices_Insert_int_grow laysNm221 g 0 n cap i w.heap.size 0 1 1 (xs.map (Value.int .i64)) [.int .i64 y] W (by omega) (by omega) hle (by omega) (by omega) hcl rfl hcs hcy h1c h1v).mono ?_
        rintro e w' ⟨rfl, rfl⟩
        have hge := grownCap_ge W (n + 1) cap 3
        have k0 := owns_new (w := W) (base := base) (e := 3) (n := n + 1) (c := grownCap W (n + 1) cap 3) (cur := (((xs.map (Value.int .i64)).take i).toArray ++ Builtin.zeroCells (Value.int .i64 0).cells (n + 1 - i) ++ Builtin.zeroCells (Value.int .i64 0).cells (grownCap W (n + 1) cap 3 - (n + 1)))) (xs := (xs.map (Value.int .i64)).take i ++ (Builtin.zeroCells (Value.int .i64 0).cells (n + 1 - i)).toList) (by omega) hge (grownCap_le_maxLen _ _ _ _ hm) (by
          rw [Array.size_append, Array.size_append, zero_size, zero_size]
          simp only [List.size_toArray, List.length_take, List.length_map]
          omega) (by
          rw [Array.toList_append, Array.toList_append, List.take_append_of_le_length (by simp only [List.length_append, Array.length_toList, zero_size, List.length_take, List.length_map]; omega), List.take_of_length_le (by simp only [List.length_append, Array.length_toList, zero_size, List.length_take, List.length_map]; omega)])
        obtain ⟨k1, k2⟩ := owns_setCells [.int .i64 y] i _ _ (World.ownsRow.drew k0)
        obtain ⟨k3, k4⟩ := owns_setCells ((xs.map (Value.int .i64)).drop i) (i + 1) _ _ (World.ownsRow.drew k1)
        refine ⟨_, _, rfl, fin ?_, ?_, fun r hr => ?_⟩
        · rw [insL_eq2 _ _ _ hcl hi (by rw [Array.length_toList, zero_size])] at k3
          exact k3
        · have q1 := grownT (drew_grown _ (some W.heap.size)) (grownT k2 (grownT (drew_grown _ _) k4))
          have q2 : W.grownBy _ (some g) := ⟨q1.os.trans (alloc_grown W _ (some g)).os, q1.tape.trans (alloc_grown W _ (some g)).tape, q1.output.trans (alloc_grown W _ (some g)).output, Nat.le_trans (alloc_grown W _ (some g)).size q1.size, fun k hk hne => (q1.block k (by simp; omega) (by intro e; injection e; omega)).trans ((alloc_grown W _ (some g)).block k hk hne)⟩
          exact grownT hwW q2
        · right
          simp [Value.ownBlock] at hr
          omega
end Go.Proofs.Ytajeledbmnndmaa

namespace Go.Proofs.Ytajeledbmnndmaa
open Go.RowKit Go.Sort
set_option maxRecDepth 100000
/-- the order with player number i moved to place p -/
def candL (l : List Nat) (i p : Nat) : List Nat := (l.eraseIdx i).take p ++ l.getD i 0 :: (l.eraseIdx i).drop p
theorem cand_perm {l : List Nat} {i p : Nat} (hi : i < l.length) : (candL l i p).Perm l := by
  unfold candL
  refine List.perm_middle.trans ?_
  rw [List.take_append_drop, List.eraseIdx_eq_take_drop_succ, getD_nat hi]
  refine List.perm_middle.symm.trans ?_
  rw [← List.drop_eq_getElem_cons hi, List.take_append_drop]
theorem cand_ord {n : Nat} {l : List Nat} (hl : l ∈ ordL n) {i p : Nat} (hi : i < n) : candL l i p ∈ ordL n := by
  obtain ⟨h1, h2, h3⟩ := mem_ordL.1 hl
  have hp := cand_perm (p := p) (l := l) (i := i) (by omega)
  exact mem_ordL.2 ⟨by rw [hp.length_eq]; exact h1, fun x hx => h2 x (hp.mem_iff.1 hx), hp.nodup_iff.2 h3⟩
theorem erase_nI (l : List Nat) (i : Nat) : (nI l).eraseIdx i = nI (l.eraseIdx i) := by
  unfold nI
  rw [List.eraseIdx_eq_take_drop_succ, List.eraseIdx_eq_take_drop_succ, List.map_append, List.map_take, List.map_drop]
theorem cand_nI (l : List Nat) (i p : Nat) : (nI (l.eraseIdx i)).take p ++ ((l.getD i 0 : Nat) : Int) :: (nI (l.eraseIdx i)).drop p = nI (candL l i p) := by
  unfold nI candL
  rw [List.map_append, List.map_cons, List.map_take, List.map_drop]
theorem getD_nI' (l : List Nat) (i : Nat) : (l.map fun (a : Nat) => (a : Int)).getD i 0 = ((l.getD i 0 : Nat) : Int) := by
  rw [List.getD_eq_getElem?_getD, List.getElem?_map, List.getD_eq_getElem?_getD]
  cases l[i]? <;> rfl
/-- no move of one player makes it better -/
def settled (r : Nat → Nat → Bool) (n : Nat) (l : List Nat) : Prop := ∀ i, i < n → ∀ p, p < n → revN r l ≤ revN r (candL l i p)
set_option maxHeartbeats 400000 in
theorem clone_own (base g n c : Nat) (xs : List Int) (w : World) (h : Own w base (.slice (some ⟨g, 0, none⟩) n c) xs) (hl : xs.length = n) (hn : n ≤ 1048576) :
    Calls Try.prog 109 #[.slice (some ⟨g, 0, none⟩) n c] w fun e w' => ∃ v', e = .returned v' ∧ Own w' w.heap.size v' xs ∧ Below w.heap.size w w' := by
  have hg : g < w.heap.size := (h.lt g rfl).2
  have hx' : ∀ k, k < xs.length → (w.alloc (.cells #[] 3)).cell? ((⟨g, 0, none⟩ : Addr).add k) = some (.int .i64 (xs.getD k 0)) := fun k hk => by
    rw [Addr.add_lit, World.cell?_alloc_lt _ _ _ (by exact hg), Nat.zero_add]
    exact (h.at0 hl (by omega)).1 k (by omega)
  have HX := Lib.hid hx'
  have ho := Own.lit w w.heap.size [] (Nat.le_refl _) (by simp)
  have HO := Lib.hid ho
  have HN := Lib.hid hl
  clear hx' ho h
  have e0 : ∀ w : World, (binOp .eql 22 (.slice (some ⟨g, 0, none⟩) n c) (.slice none 0 0)).run Try.prog w = .ok (.bool false) w := fun _ => by kernel_rfl
  go_enter Try.func109, Try.ntmps109
  go_wp2_with (at_builtin; refine wp_appendN (w.alloc (.cells #[] 3)) rfl (.tmp 5) (.tmp 6) rfl w.heap.size _ [] rfl HO.out ⟨g, 0, none⟩ c xs (by rw [HN.out]; simp [Act.eval]) HX.out (by simp; omega) (by simp) ?_; intro v' w' ho hgr; have HO2 := Lib.hid ho; have HG2 := Lib.hid hgr; clear ho hgr)
  go_ret
  exact ⟨_, rfl, by simpa using HO2.out, Below.grown (below_alloc1 w _) HG2.out (by simp) (fun k hk => (HO.out.lt k hk).1)⟩
variable {n : Nat} {sl ov : Value} {xs : List Int} {w : World} {l : List Nat}
theorem cBackN (hp : tourP n xs) (h : Rd w sl xs) (hl : l ∈ ordL n) (ho : Rd w ov (nI l)) :
    Calls Try.prog 108 #[.agg #[.int .i64 n, sl], ov] w fun e w' => ∃ C c, e = .returned (.slice C (revN (bt xs) l) c) ∧ Below w.heap.size w w' :=
  (cBack hp h hl ho).mono fun e w' ⟨v, h1, h2, h3⟩ => by
    obtain ⟨C, c, rfl, -⟩ := h2.form
    rw [bgN_len hl] at h1
    exact ⟨C, c, h1, h3⟩
set_option maxHeartbeats 4000000 in
theorem cImp (hp : tourP n xs) (h : Rd w sl xs) (hl : l ∈ ordL n) (ho : Rd w ov (nI l)) :
    Calls Try.prog 110 #[.agg #[.int .i64 n, sl], ov] w fun e w' => ∃ v', e = .returned v' ∧ Below w.heap.size w w' ∧
      ((v' = .slice none 0 0 ∧ settled (bt xs) n l) ∨ ∃ g c q, v' = .slice (some ⟨g, 0, none⟩) n c ∧ q ∈ ordL n ∧ revN (bt xs) q < revN (bt xs) l ∧ ¬ settled (bt xs) n l ∧ Own w' w.heap.size (.slice (some ⟨g, 0, none⟩) n c) (nI q)) := by
  have HR := Lib.hid h
  obtain ⟨A, cA, rfl, -, -, -⟩ := h
  rw [tour_len hp] at *
  have HP := Lib.hid hp
  have h8 : n ≤ 8 := by have := hp.1; omega
  have h1 : 1 ≤ n := by have := hp.1; omega
  have hk : (nI l).length = n := by rw [nI_len]; exact (mem_ordL.1 hl).1
  have HK := Lib.hid hk
  have HL := Lib.hid hl
  have HV := Lib.hid ho
  obtain ⟨B, cB, rfl, -, hm, hc⟩ := ho
  obtain ⟨go, oo, rfl, hgw, hgx⟩ := hc (by rw [hk]; omega)
  unfold maxLen at hm
  rw [hk] at HV hgx ⊢
  have HGX := Lib.hid hgx
  have HBK : Hid (∀ (W : World) (q : List Nat) (v : Value), q ∈ ordL n → Rd W v (nI q) → Below w.heap.size w W → Calls Try.prog 108 #[.agg #[.int .i64 n, .slice A n cA], v] W fun e w' => ∃ C c, e = .returned (.slice C (revN (bt xs) q) c) ∧ Below W.heap.size W w') := Lib.hid fun W q v hq hv hW => cBackN HP.out (HR.out.below hW) hq hv
  have hll : l.length = n := (mem_ordL.1 hl).1
  have HLL := Lib.hid hll
  clear hp hl hk hc hgx hll
  go_enter Try.func110, Try.ntmps110
  go_wp2_with fail
  have b0 := below_alloc1 w (.cells #[.int .i64 n, .slice A n cA] 28)
  have x0 := TBox.new w n (.slice A n cA) 28
  generalize w.alloc (.cells #[.int .i64 n, .slice A n cA] 28) = w0 at *
  have HX0 := Lib.hid x0
  have HB0 := Lib.hid b0
  clear x0 b0
  have y0_0 := HX0.out.1
  have y1_0 := HX0.out.2
  go_wp2
  clear y0_0 y1_0
  go_loopw [12] (fun t12 wr => ∃ i : Nat, i ≤ n ∧ t12 = .int .i64 i ∧ Hid (∀ i', i' < i → ∀ p, p < n → revN (bt xs) l ≤ revN (bt xs) (candL l i' p)) ∧ Hid (TBox wr w.heap.size n (.slice A n cA)) ∧ Hid (Below w.heap.size w wr)) (fun t12 _ => n - (intOf t12).toNat)
  case atStart => exact ⟨0, by omega, rfl, Lib.hid (fun i hi => absurd hi (by omega)), HX0, HB0⟩
  case round =>
    obtain ⟨wa, rfl⟩ : ∃ x, x = wr := ⟨_, rfl⟩
    obtain ⟨i, hi, rfl, HN, HX, HB⟩ := hrel
    clear HX0 HB0
    by_cases hlti : i < n
    · as_aux_lemma =>
      have y0 := HX.out.1
      have zi := (HB.out.cell (by exact hgw)).trans (HGX.out i hlti)
      have ei : (nI l).getD i 0 = ((l.getD i 0 : Nat) : Int) := by
        unfold nI
        rw [getD_nI' l i]
      rw [ei] at zi
      have HCN := Lib.hid (fun p => cand_nI l i p)
      generalize l.getD i 0 = a at *
      have ewi : wrap64 ((i : Int) + 1) = ((i + 1 : Nat) : Int) := by rw [IntWalk.wrap64_in _ (by omega)]; omega
      go_wp2_with fail
      refine (clone_any _ (nI l) wa (HV.out.below HB.out) (by rw [HK.out]; omega) (by rw [HK.out]; omega)).mono ?_
      rintro e w2 ⟨v2, rfl, ho2, hb2⟩
      obtain ⟨g2, c2, rfl, -, -, -, -, -⟩ := ho2.at_ HK.out h1
      have HO2 := Lib.hid ho2
      have HX2 := Lib.hid (HX.out.below hb2)
      have HB2 := Lib.hid (Below.then HB.out hb2)
      have hb2s := hb2.size
      have hwa := HB.out.size
      have HBa := Lib.hid hb2
      clear ho2 hb2 zi y0
      go_wp2_with fail
      refine (delete_own wa.heap.size g2 n c2 i (nI l) w2 HO2.out HK.out hlti).mono ?_
      rintro e w3 ⟨rfl, ho3, hb3⟩
      rw [erase_nI] at ho3
      have HO3 := Lib.hid ho3
      have HB3 := Lib.hid (hb3 w.heap.size w hwa HB2.out)
      have HX3 := Lib.hid (HX.out.below (hb3 wa.heap.size wa (Nat.le_refl _) HBa.out))
      have hwa3 := (hb3 wa.heap.size wa (Nat.le_refl _) HBa.out).size
      have HLR : Hid ((nI (l.eraseIdx i)).length = n - 1) := Lib.hid (by rw [nI_len, List.length_eraseIdx, if_pos (by rw [HLL.out]; exact hlti), HLL.out])
      have HCO : Hid (∀ p, candL l i p ∈ ordL n) := Lib.hid fun p => cand_ord HL.out hlti
      clear ho3 hb3 HO2 HX2 HB2 HBa HX HB
      have HNN : Hid (∀ p', p' < 0 → revN (bt xs) l ≤ revN (bt xs) (candL l i p')) := Lib.hid fun p h => absurd h (by omega)
      generalize nI (l.eraseIdx i) = R at *
      go_wp2
      go_loopw [25] (fun t25 wr => ∃ p : Nat, p ≤ n ∧ t25 = .int .i64 p ∧ Hid (∀ p', p' < p → revN (bt xs) l ≤ revN (bt xs) (candL l i p')) ∧ Hid (Own wr wa.heap.size (.slice (some ⟨g2, 0, none⟩) (n - 1) c2) R) ∧ Hid (TBox wr w.heap.size n (.slice A n cA)) ∧ Hid (Below w3.heap.size w3 wr)) (fun t25 _ => n - (intOf t25).toNat)
      case atStart => exact ⟨0, by omega, rfl, HNN, HO3, HX3, Lib.hid (Below.refl _ _)⟩
      case round =>
        obtain ⟨wk, rfl⟩ : ∃ x, x = wr := ⟨_, rfl⟩
        obtain ⟨p, hp, rfl, HNp, HO, HX, HBk⟩ := hrel
        clear HNN HO3 HX3
        by_cases hltp : p < n
        · as_aux_lemma =>
          have hnn : n - 1 + 1 = n := by omega
          have hk3 := HBk.out.size
          have hg2k : g2 < wk.heap.size := (HO.out.lt g2 rfl).2
          have hbxk : w.heap.size < wk.heap.size := World.block_lt_of_cell? _ _ HX.out.1
          go_wp2_with fail
          refine (clone_own wa.heap.size g2 (n - 1) c2 R wk HO.out HLR.out (by omega)).mono ?_
          rintro e w4 ⟨v4, rfl, ho4, hb4⟩
          have HO4 := Lib.hid ho4
          have hb4s := hb4.size
          have HB4 := Lib.hid hb4
          have HOr := Lib.hid (HO.out.below hb4)
          have HX4 := Lib.hid (HX.out.below hb4)
          clear ho4 hb4 HO HX
          go_wp2_with fail
          refine (insert_own wk.heap.size v4 R (n - 1) p (a : Int) w4 HO4.out HLR.out (by omega) (by omega) hb4s).mono ?_
          rintro e w5 ⟨I5, c5, rfl, ho5, hg5, -⟩
          rw [HCN.out p, hnn] at ho5
          rw [hnn]
          have HK5 : Hid ((nI (candL l i p)).length = n) := Lib.hid (by rw [nI_len]; exact (mem_ordL.1 (HCO.out p)).1)
          obtain ⟨g5, c6, e5, -, -, -, -, -⟩ := ho5.at_ HK5.out h1
          injection e5 with e5 _ e6
          subst e5 e6
          have HO5 := Lib.hid ho5
          have hne : (Value.slice (some ⟨g2, 0, none⟩) (n - 1) c2).ownBlock = none ∨ (Value.slice (some ⟨g2, 0, none⟩) (n - 1) c2).ownBlock ≠ v4.ownBlock := .inr fun e => by
            have h1 := (HO4.out.lt g2 e.symm).1
            omega
          have HX5 := Lib.hid (HX4.out.kept hg5 (fun e => by
            have h1 := (HO4.out.lt _ e.symm).1
            omega))
          have HB5 := Lib.hid (HB4.out.grown hg5 HB4.out.size (fun k hk => (HO4.out.lt k hk).1))
          have HR5 := Lib.hid (HOr.out.kept hg5 hne)
          have HBw := Lib.hid (Below.then HB3.out (Below.then HBk.out HB5.out))
          have hw5 : wk.heap.size ≤ w5.heap.size := HB5.out.size
          have hq := HCO.out p
          have HQ := Lib.hid hq
          clear ho5 hg5 hne HOr HX4 HO4 HB4 hq
          go_wp2_with fail
          go_cut [42] (fun t42 wx => t42 = .bool (decide (revN (bt xs) (candL l i p) < revN (bt xs) l)) ∧ Hid (Below w5.heap.size w5 wx))
          case first =>
            as_aux_lemma =>
              have KP : Hid (∀ W, Below w5.heap.size w5 W → (W.cell? ⟨w.heap.size, 0, none⟩ = some (.int .i64 n) ∧ W.cell? ⟨w.heap.size, 1, none⟩ = some (.slice A n cA))) := Lib.hid fun W hW => ⟨(HX5.out.below hW).1, (HX5.out.below hW).2⟩
              have KN : Hid (∀ W, Below w5.heap.size w5 W → Calls Try.prog 108 #[.agg #[.int .i64 n, .slice A n cA], .slice (some ⟨g5, 0, none⟩) n c5] W fun e w' => ∃ C c, e = .returned (.slice C (revN (bt xs) (candL l i p)) c) ∧ Below W.heap.size W w') := Lib.hid fun W hW => HBK.out W _ _ HQ.out (HO5.out.rd.below hW) (Below.then HBw.out hW)
              have KO : Hid (∀ W, Below w5.heap.size w5 W → Calls Try.prog 108 #[.agg #[.int .i64 n, .slice A n cA], .slice (some ⟨go, oo, none⟩) n cB] W fun e w' => ∃ C c, e = .returned (.slice C (revN (bt xs) l) c) ∧ Below W.heap.size W w') := Lib.hid fun W hW => HBK.out W _ _ HL.out (HV.out.below (Below.then HBw.out hW)) (Below.then HBw.out hW)
              have BB0 : Below w5.heap.size w5 w5.drew := (Below.refl _ _).drew
              generalize revN (bt xs) (candL l i p) = r1 at *
              generalize revN (bt xs) l = r2 at *
              refine wp_region_held_drew (S := fun W => W.cell? ⟨w.heap.size, 0, none⟩ = some (.int .i64 n) ∧ W.cell? ⟨w.heap.size, 1, none⟩ = some (.slice A n cA)) (by kernel_rfl) (KP.out _ BB0) (fun hS0 => ?_)
              refine hTake (i := 0) (v := ?v0_1) rfl (by kernel_rfl) (by kernel_rfl) (by kernel_rfl) (fun _ _ _ h => h) (Or.inl ⟨by rfl, ?hy0_1⟩) hS0 ?rest0_1
              case hy0_1 =>
                intro W hSw
                (try dsimp only at hSw)
                go_simp
                first | done | (with_reducible rfl)
              try simp only [Act.put, List.setIfInBounds_toArray, List.set_cons_zero, List.set_cons_succ]
              refine hTake (i := 1) (v := ?v1_2) rfl (by kernel_rfl) (by kernel_rfl) (by kernel_rfl) (fun _ _ _ h => h) (Or.inl ⟨by rfl, ?hy1_2⟩) hS0 ?rest1_2
              case hy1_2 =>
                intro W hSw
                (try dsimp only at hSw)
                go_simp
                first | done | (with_reducible rfl)
              try simp only [Act.put, List.setIfInBounds_toArray, List.set_cons_zero, List.set_cons_succ]
              refine hTake (i := 4) (v := ?v4_3) rfl (by kernel_rfl) (by kernel_rfl) (by kernel_rfl) (fun _ _ _ h => h) (Or.inl ⟨by rfl, ?hy4_3⟩) hS0 ?rest4_3
              case hy4_3 =>
                intro W hSw
                (try dsimp only at hSw)
                go_simp
                first | done | (with_reducible rfl)
              try simp only [Act.put, List.setIfInBounds_toArray, List.set_cons_zero, List.set_cons_succ]
              refine hTake (i := 5) (v := ?v5_4) rfl (by kernel_rfl) (by kernel_rfl) (by kernel_rfl) (fun _ _ _ h => h) (Or.inl ⟨by rfl, ?hy5_4⟩) hS0 ?rest5_4
              case hy5_4 =>
                intro W hSw
                (try dsimp only at hSw)
                go_simp
                first | done | (with_reducible rfl)
              try simp only [Act.put, List.setIfInBounds_toArray, List.set_cons_zero, List.set_cons_succ]
              refine wpAnyH_ready (rs := [2]) (by kernel_rfl) (by simp) ?_
              refine hStep (i := 2) rfl (fun K hK => ?_) AllReadyH.nil
              go_simp; go_at_call 108; refine (KN.out _ BB0).mono ?_; rintro e v1 ⟨C1, c1, rfl, hb⟩; have BB1 := Below.then BB0 hb; clear hb; try go_wp2_with fail
              refine hK.out _ _ ?_ (fun hS1 => ?_)
              · (try dsimp only); exact KP.out _ BB1
              clear hK K
              try simp only [Act.put, List.setIfInBounds_toArray, List.set_cons_zero, List.set_cons_succ]
              refine hTake (i := 3) (v := ?v3_5) rfl (by kernel_rfl) (by kernel_rfl) (by kernel_rfl) (fun _ _ _ h => h) (Or.inl ⟨by rfl, ?hy3_5⟩) hS1 ?rest3_5
              case hy3_5 =>
                intro W hSw
                (try dsimp only at hSw)
                go_simp
                first | done | (with_reducible rfl)
              try simp only [Act.put, List.setIfInBounds_toArray, List.set_cons_zero, List.set_cons_succ]
              refine wpAnyH_ready (rs := [6]) (by kernel_rfl) (by simp) ?_
              refine hStep (i := 6) rfl (fun K hK => ?_) AllReadyH.nil
              go_simp; go_at_call 108; refine (KO.out _ BB1).mono ?_; rintro e v2 ⟨C2, c2, rfl, hb⟩; have BB2 := Below.then BB1 hb; clear hb; try go_wp2_with fail
              refine hK.out _ _ ?_ (fun hS2 => ?_)
              · (try dsimp only); exact KP.out _ BB2
              clear hK K
              try simp only [Act.put, List.setIfInBounds_toArray, List.set_cons_zero, List.set_cons_succ]
              refine hTake (i := 7) (v := ?v7_6) rfl (by kernel_rfl) (by kernel_rfl) (by kernel_rfl) (fun _ _ _ h => h) (Or.inl ⟨by rfl, ?hy7_6⟩) hS2 ?rest7_6
              case hy7_6 =>
                intro W hSw
                (try dsimp only at hSw)
                go_simp
                first | done | (with_reducible rfl)
              try simp only [Act.put, List.setIfInBounds_toArray, List.set_cons_zero, List.set_cons_succ]
              refine hTake (i := 8) (v := ?v8_7) rfl (by kernel_rfl) (by kernel_rfl) (by kernel_rfl) (fun _ _ _ h => h) (Or.inl ⟨by rfl, ?hy8_7⟩) hS2 ?rest8_7
              case hy8_7 =>
                intro W hSw
                (try dsimp only at hSw)
                go_simp
                first | done | (with_reducible rfl)
              try simp only [Act.put, List.setIfInBounds_toArray, List.set_cons_zero, List.set_cons_succ]
              refine wpAnyH_done (by kernel_rfl) ?_ _
              go_wp2_with fail
              go_meet
              case rel => exact ⟨by simp, Lib.hid BB2⟩
          case rest =>
          as_aux_lemma =>
            obtain ⟨rfl, hB6⟩ := hcut
            have HX6 := Lib.hid (HX5.out.below hB6.out)
            have HR6 := Lib.hid (HR5.out.below hB6.out)
            have HO6 := Lib.hid (HO5.out.below hB6.out)
            have HB6 := Lib.hid (Below.then HBk.out (Below.then HB5.out hB6.out))
            clear HX5 HR5 HO5 HB5 hB6
            by_cases hlt : revN (bt xs) (candL l i p) < revN (bt xs) l
            · as_aux_lemma =>
              have hd : decide (revN (bt xs) (candL l i p) < revN (bt xs) l) = true := decide_eq_true hlt
              rw [hd]
              go_wp2
              go_ret
              exact ⟨_, rfl, Below.then HB3.out HB6.out, .inr ⟨g5, c5, candL l i p, rfl, HQ.out, hlt, fun hs => absurd (hs i hlti p hltp) (by omega), HO6.out.mono (by have := HB3.out.size; omega)⟩⟩
            · as_aux_lemma =>
              have hd : decide (revN (bt xs) (candL l i p) < revN (bt xs) l) = false := decide_eq_false hlt
              rw [hd]
              have HN2 : Hid (∀ p', p' < p + 1 → revN (bt xs) l ≤ revN (bt xs) (candL l i p')) := Lib.hid fun p' hp' => by
                by_cases e : p' = p
                · subst e; omega
                · exact HNp.out p' (by omega)
              go_wp2
              go_roundw
              case rel => exact ⟨p + 1, by omega, by go_num, HN2, HR6, HX6, HB6⟩
              case measure => simp [intOf]; omega
        · as_aux_lemma =>
          obtain rfl : p = n := by omega
          have HN2 : Hid (∀ i', i' < i + 1 → ∀ p', p' < p → revN (bt xs) l ≤ revN (bt xs) (candL l i' p')) := Lib.hid fun i' hi' p' hp' => by
            by_cases e : i' = i
            · subst e; exact HNp.out p' hp'
            · exact HN.out i' (by omega) p' hp'
          go_wp2
          go_roundw
          case rel => exact ⟨i + 1, by omega, by go_num, HN2, HX, Lib.hid (Below.then HB3.out HBk.out)⟩
          case measure => simp [intOf]; omega
    · as_aux_lemma =>
      obtain rfl : i = n := by omega
      go_wp2
      go_ret
      exact ⟨_, rfl, HB.out, .inl ⟨rfl, HN.out⟩⟩
end Go.Proofs.Ytajeledbmnndmaa

namespace Go.Proofs.Ytajeledbmnndmaa
open Go.RowKit Go.Sort
set_option maxRecDepth 100000
/-- a game reversed -/
theorem flip_btN {n : Nat} {xs : List Int} (hp : tourP n xs) {a b : Nat} (ha : a < n) (hb : b < n) (hab : a ≠ b) {x y : Nat} (hx : x < n) : bt (flipL xs a b) x y = (bt xs x y ^^ ((x == a && y == b) || (x == b && y == a))) := by
  have hl := tour_len hp
  obtain ⟨S, e, -, h⟩ := flip_at hp (a := a) (b := b) (by omega) (by omega) hab x (by omega)
  unfold bt winsN
  rw [e]
  exact h y
def flR (ys : List Int) (r : List Int) : List Int := flipL ys (r.getD 0 0).toNat (r.getD 1 0).toNat
/-- the games of the rows reversed -/
def strL (xs : List Int) (rows : List (List Int)) : List Int := rows.foldl flR xs
theorem strL_snoc (xs : List Int) (rows : List (List Int)) (r : List Int) : strL xs (rows ++ [r]) = flR (strL xs rows) r := by simp [strL]
theorem pair_mem {P : List (List Int)} {a b x y : Nat} : ([(x : Int), (y : Int)] ∈ P ++ [[(a : Int), (b : Int)]]) ↔ ([(x : Int), (y : Int)] ∈ P ∨ (x = a ∧ y = b)) := by
  rw [List.mem_append, List.mem_singleton]
  constructor
  · rintro (h | h)
    · exact .inl h
    · injection h with h1 h2
      injection h2 with h2 _
      exact .inr ⟨by omega, by omega⟩
  · rintro (h | ⟨rfl, rfl⟩)
    · exact .inl h
    · exact .inr rfl
open Classical in
theorem str_law {n : Nat} {xs : List Int} (hp : tourP n xs) : ∀ (rows rest : List (List Int)), (∀ r ∈ rows, ∃ a b : Nat, a < n ∧ b < n ∧ r = [(a : Int), (b : Int)] ∧ bt xs a b = true) → rows.Nodup →
    tourP n (strL xs rows) ∧ ∀ x y, x < n → y < n → bt (strL xs rows) x y = (bt xs x y ^^ decide ([(x : Int), (y : Int)] ∈ rows ∨ [(y : Int), (x : Int)] ∈ rows)) := by
  intro rows rest
  clear rest
  have key : ∀ (k : Nat), k ≤ rows.length → (∀ r ∈ rows, ∃ a b : Nat, a < n ∧ b < n ∧ r = [(a : Int), (b : Int)] ∧ bt xs a b = true) → rows.Nodup →
      tourP n (strL xs (rows.take k)) ∧ ∀ x y, x < n → y < n → bt (strL xs (rows.take k)) x y = (bt xs x y ^^ decide ([(x : Int), (y : Int)] ∈ rows.take k ∨ [(y : Int), (x : Int)] ∈ rows.take k)) := by
    intro k
    induction k with
    | zero => intro _ _ _; exact ⟨by simpa [strL] using hp, fun x y _ _ => by simp [strL]⟩
    | succ k ih =>
      intro hk hr hn
      obtain ⟨i1, i2⟩ := ih (by omega) hr hn
      have hkl : k < rows.length := by omega
      rw [List.take_succ_eq_append_getElem hkl]
      obtain ⟨a, b, ha, hb, e, hab⟩ := hr rows[k] (List.getElem_mem hkl)
      have hne := (bt_asym hp ha hb hab)
      have hnk : rows[k] ∉ rows.take k := fun hm => by
        rw [List.mem_iff_getElem] at hm
        obtain ⟨j, hj, ej⟩ := hm
        rw [List.length_take] at hj
        rw [List.getElem_take] at ej
        exact List.pairwise_iff_getElem.1 hn j k (by omega) hkl (by omega) ej
      rw [e] at hnk ⊢
      have hnk2 : [(b : Int), (a : Int)] ∉ rows.take k := fun hm => by
        obtain ⟨c, d, -, -, e2, h2⟩ := hr _ (List.mem_of_mem_take hm)
        injection e2 with e3 e4
        injection e4 with e4 _
        have h3 : c = b := by omega
        have h4 : d = a := by omega
        subst h3 h4
        rw [hne.1] at h2; cases h2
      rw [strL_snoc]
      have efl : flR (strL xs (rows.take k)) [(a : Int), (b : Int)] = flipL (strL xs (rows.take k)) a b := rfl
      rw [efl]
      refine ⟨flip_tourN i1 ha hb hne.2, fun x y hx hy => ?_⟩
      rw [flip_btN i1 ha hb hne.2 hx, i2 x y hx hy, Bool.xor_assoc]
      congr 1
      by_cases h1 : x = a ∧ y = b
      · obtain ⟨rfl, rfl⟩ := h1
        have d1 : decide ([(x : Int), (y : Int)] ∈ rows.take k ∨ [(y : Int), (x : Int)] ∈ rows.take k) = false := decide_eq_false (by simp [hnk, hnk2])
        rw [d1, decide_eq_true (.inl (pair_mem.2 (.inr ⟨rfl, rfl⟩)))]
        simp
      · by_cases h2 : x = b ∧ y = a
        · obtain ⟨rfl, rfl⟩ := h2
          have d1 : decide ([(x : Int), (y : Int)] ∈ rows.take k ∨ [(y : Int), (x : Int)] ∈ rows.take k) = false := decide_eq_false (by simp [hnk, hnk2])
          rw [d1, decide_eq_true (.inr (pair_mem.2 (.inr ⟨rfl, rfl⟩)))]
          simp
        · have e1 : ((x == a && y == b) || (x == b && y == a)) = false := by
            rw [Bool.or_eq_false_iff, Bool.and_eq_false_iff, Bool.and_eq_false_iff]
            simp only [beq_eq_false_iff_ne]
            omega
          rw [e1, Bool.xor_false]
          rw [decide_eq_decide, pair_mem, pair_mem]
          constructor
          · rintro (h | h)
            · exact .inl (.inl h)
            · exact .inr (.inl h)
          · rintro ((h | h) | (h | h))
            · exact .inl h
            · exact absurd h h1
            · exact .inr h
            · exact absurd ⟨h.2, h.1⟩ h2
  intro hr hn
  have := key rows.length (Nat.le_refl _) hr hn
  rwa [List.take_length] at this
/-- the rows' order -/
def rowK (r : List Int) : Int := r.getD 0 0 * 100 + r.getD 1 0
theorem bg_sorted (r : Nat → Nat → Bool) {n : Nat} (hn : n ≤ 50) (l : List Nat) : (bgN r n l).Pairwise fun x y => rowK x < rowK y := by
  unfold bgN bgTo
  rw [List.pairwise_flatMap]
  refine ⟨fun a ha => ?_, ?_⟩
  · unfold bgIn
    rw [List.pairwise_map]
    refine List.Pairwise.imp ?_ (List.Pairwise.filter _ List.pairwise_lt_range)
    intro b c h
    have e1 : rowK [(a : Int), (b : Int)] = (a : Int) * 100 + b := rfl
    have e2 : rowK [(a : Int), (c : Int)] = (a : Int) * 100 + c := rfl
    rw [e1, e2]; omega
  · refine List.Pairwise.imp ?_ List.pairwise_lt_range
    intro a b hab x hx y hy
    unfold bgIn at hx hy
    rw [List.mem_map] at hx hy
    obtain ⟨c, hc, rfl⟩ := hx
    obtain ⟨d, hd, rfl⟩ := hy
    have hc := List.mem_range.1 (List.mem_filter.1 hc).1
    have hd := List.mem_range.1 (List.mem_filter.1 hd).1
    have e1 : rowK [(a : Int), (c : Int)] = (a : Int) * 100 + c := rfl
    have e2 : rowK [(b : Int), (d : Int)] = (b : Int) * 100 + d := rfl
    rw [e1, e2]; omega
theorem bg_nodup (r : Nat → Nat → Bool) {n : Nat} (hn : n ≤ 50) (l : List Nat) : (bgN r n l).Nodup :=
  (bg_sorted r hn l).imp fun h e => by subst e; omega
/-- a straightened tour: who stands ahead beats who stands behind -/
theorem straight {n : Nat} {xs : List Int} (hp : tourP n xs) {l : List Nat} (hl : l ∈ ordL n) :
    tourP n (strL xs (bgN (bt xs) n l)) ∧ ∀ x y, x < n → y < n → bt (strL xs (bgN (bt xs) n l)) x y = decide (l.idxOf x < l.idxOf y) := by
  have h8 : n ≤ 8 := by have := hp.1; omega
  obtain ⟨h1, h2⟩ := str_law hp (bgN (bt xs) n l) [] (fun r hr => by
    obtain ⟨a, b, ha, hb, hq, e⟩ := bgN_mem.1 hr
    unfold bgP at hq
    rw [Bool.and_eq_true] at hq
    exact ⟨a, b, ha, hb, e, hq.1⟩) (bg_nodup _ (by omega) l)
  refine ⟨h1, fun x y hx hy => ?_⟩
  rw [h2 x y hx hy]
  have hm : ∀ x y, x < n → y < n → ([(x : Int), (y : Int)] ∈ bgN (bt xs) n l ↔ bt xs x y = true ∧ l.idxOf y < l.idxOf x) := fun x y hx hy => by
    rw [bgN_mem]
    constructor
    · rintro ⟨a, b, ha, hb, hq, e⟩
      injection e with e1 e2
      injection e2 with e2 _
      have h3 : a = x := by omega
      have h4 : b = y := by omega
      subst h3 h4
      unfold bgP at hq
      rw [Bool.and_eq_true, decide_eq_true_eq] at hq
      exact hq
    · rintro ⟨q1, q2⟩
      exact ⟨x, y, hx, hy, by unfold bgP; rw [q1, decide_eq_true q2]; rfl, rfl⟩
  by_cases hxy : x = y
  · subst hxy
    have := bt_irr hp x
    rw [this]
    simp [hm x x hx hx, this]
  · have hidx : l.idxOf x ≠ l.idxOf y := fun e => by
      have mx := ord_all hl hx
      have my := ord_all hl hy
      have ix := List.idxOf_lt_length_iff.2 mx
      have iy := List.idxOf_lt_length_iff.2 my
      have e1 := List.getElem_idxOf ix
      have e2 := List.getElem_idxOf iy
      apply hxy
      rw [← e1, ← e2]
      congr 1
    have hf := (tour_bits hp).2.2 x y (by rw [tour_len hp]; exact hx) (by rw [tour_len hp]; exact hy) hxy
    rcases q : bt xs x y with _ | _
    · have q2 : bt xs y x = true := by rw [q] at hf; simpa using hf.symm
      have : decide ([(x : Int), (y : Int)] ∈ bgN (bt xs) n l ∨ [(y : Int), (x : Int)] ∈ bgN (bt xs) n l) = decide (l.idxOf x < l.idxOf y) := by
        rw [decide_eq_decide, hm x y hx hy, hm y x hy hx, q, q2]; simp
      rw [this]; simp
    · have q2 : bt xs y x = false := by rw [q] at hf; simpa using hf.symm
      have : decide ([(x : Int), (y : Int)] ∈ bgN (bt xs) n l ∨ [(y : Int), (x : Int)] ∈ bgN (bt xs) n l) = decide (l.idxOf y < l.idxOf x) := by
        rw [decide_eq_decide, hm x y hx hy, hm y x hy hx, q, q2]; simp
      rw [this]
      by_cases h : l.idxOf y < l.idxOf x
      · rw [decide_eq_true h, decide_eq_false (by omega)]; rfl
      · rw [decide_eq_false h, decide_eq_true (by omega)]; rfl
theorem straight_zero {n : Nat} {xs : List Int} (hp : tourP n xs) {l : List Nat} (hl : l ∈ ordL n) : revN (bt (strL xs (bgN (bt xs) n l))) l = 0 := by
  rw [← bgN_len hl, List.length_eq_zero_iff, List.eq_nil_iff_forall_not_mem]
  intro x hx
  obtain ⟨a, b, ha, hb, hq, -⟩ := bgN_mem.1 hx
  unfold bgP at hq
  rw [Bool.and_eq_true, (straight hp hl).2 a b ha hb, decide_eq_true_eq, decide_eq_true_eq] at hq
  omega
theorem straight_trans {n : Nat} {xs : List Int} (hp : tourP n xs) {l : List Nat} (hl : l ∈ ordL n) : transP (strL xs (bgN (bt xs) n l)) n := by
  intro a b c ha hb hc h1 h2
  rw [(straight hp hl).2 _ _ ha hb, decide_eq_true_eq] at h1
  rw [(straight hp hl).2 _ _ hb hc, decide_eq_true_eq] at h2
  rw [(straight hp hl).2 _ _ ha hc, decide_eq_true_eq]
  omega
end Go.Proofs.Ytajeledbmnndmaa

namespace Go.Proofs.Ytajeledbmnndmaa
open Go.RowKit Go.Sort
set_option maxRecDepth 100000
variable {n : Nat} {sl ov : Value} {xs : List Int} {w : World} {l : List Nat}
open Classical in
noncomputable def setB (r : Nat → Nat → Bool) (n : Nat) (l : List Nat) : Bool := decide (settled r n l)
theorem setB_true {r : Nat → Nat → Bool} {n : Nat} {l : List Nat} (h : settled r n l) : setB r n l = true := by unfold setB; simpa using h
theorem setB_false {r : Nat → Nat → Bool} {n : Nat} {l : List Nat} (h : ¬ settled r n l) : setB r n l = false := by unfold setB; simpa using h
set_option maxHeartbeats 2000000 in
theorem cSettled (hp : tourP n xs) (h : Rd w sl xs) (hl : l ∈ ordL n) (ho : Rd w ov (nI l)) :
    Calls Try.prog 58 #[.agg #[.int .i64 n, sl], ov] w fun e w' => e = .returned (.bool (setB (bt xs) n l)) ∧ Below w.heap.size w w' := by
  have HR := Lib.hid h
  obtain ⟨A, cA, rfl, -, -, -⟩ := h
  rw [tour_len hp] at *
  have HP := Lib.hid hp
  have HL := Lib.hid hl
  have HV := Lib.hid ho
  obtain ⟨B, cB, rfl, -, -, -⟩ := ho
  generalize (nI l).length = k at *
  clear hp hl
  go_enter Try.func58, Try.ntmps58
  go_wp2_with fail
  have b0 := below_alloc1 w (.cells #[.int .i64 n, .slice A n cA] 28)
  have x0 := TBox.new w n (.slice A n cA) 28
  generalize w.alloc (.cells #[.int .i64 n, .slice A n cA] 28) = w0 at *
  have HX0 := Lib.hid x0
  have HB0 := Lib.hid b0
  clear x0 b0
  have y0_0 := HX0.out.1
  have y1_0 := HX0.out.2
  go_wp2_with fail
  refine (cOrderOk HP.out (HR.out.below HB0.out) HL.out (HV.out.below HB0.out)).mono ?_
  rintro e w1 ⟨rfl, hb1⟩
  have HB1 := Lib.hid (Below.then HB0.out hb1)
  have HX1 := Lib.hid (HX0.out.below hb1)
  clear hb1 y0_0 y1_0 HX0 HB0
  have y0_1 := HX1.out.1
  have y1_1 := HX1.out.2
  go_wp2_with fail
  refine (cImp HP.out (HR.out.below HB1.out) HL.out (HV.out.below HB1.out)).mono ?_
  rintro e w2 ⟨v, rfl, hb2, hv⟩
  have HB2 := Lib.hid (Below.then HB1.out hb2)
  clear hb2
  rcases hv with ⟨rfl, hs⟩ | ⟨g, c, q, rfl, -, -, hs, -⟩
  · have e0 : ∀ w : World, (binOp .eql 22 (.slice none 0 0) (.slice none 0 0)).run Try.prog w = .ok (.bool true) w := fun _ => by kernel_rfl
    have HS : Hid (setB (bt xs) n l = true) := Lib.hid (setB_true hs)
    clear hs
    go_wp2
    go_ret
    exact ⟨by rw [HS.out]; rfl, HB2.out⟩
  · have HS : Hid (setB (bt xs) n l = false) := Lib.hid (setB_false hs)
    clear hs
    have e0 : ∀ w : World, (binOp .eql 22 (.slice (some ⟨g, 0, none⟩) n c) (.slice none 0 0)).run Try.prog w = .ok (.bool false) w := fun _ => by kernel_rfl
    go_wp2
    go_ret
    exact ⟨by rw [HS.out]; rfl, HB2.out⟩
set_option maxHeartbeats 4000000 in
theorem cImprove (hp : tourP n xs) (h : Rd w sl xs) (hl : l ∈ ordL n) (ho : Rd w ov (nI l)) :
    Calls Try.prog 54 #[.agg #[.int .i64 n, sl], ov] w fun e w' => ∃ (g c : Nat) (q : List Nat), e = .returned (.slice (some ⟨g, 0, none⟩) n c) ∧ q ∈ ordL n ∧ settled (bt xs) n q ∧ (q = l ∨ (¬ settled (bt xs) n l ∧ revN (bt xs) q < revN (bt xs) l)) ∧ Own w' w.heap.size (.slice (some ⟨g, 0, none⟩) n c) (nI q) ∧ Below w.heap.size w w' := by
  have HR := Lib.hid h
  obtain ⟨A, cA, rfl, -, -, -⟩ := h
  rw [tour_len hp] at *
  have HP := Lib.hid hp
  have HL := Lib.hid hl
  have h8 : n ≤ 8 := by have := hp.1; omega
  have h1 : 1 ≤ n := by have := hp.1; omega
  have hk : (nI l).length = n := by rw [nI_len]; exact (mem_ordL.1 hl).1
  have HK := Lib.hid hk
  have HV := Lib.hid ho
  obtain ⟨B, cB, rfl, -, -, -⟩ := ho
  rw [hk] at HV ⊢
  have HIM : Hid (∀ (W : World) (q : List Nat) (v : Value), q ∈ ordL n → Rd W v (nI q) → Below w.heap.size w W → Calls Try.prog 110 #[.agg #[.int .i64 n, .slice A n cA], v] W fun e w' => ∃ v', e = .returned v' ∧ Below W.heap.size W w' ∧
      ((v' = .slice none 0 0 ∧ settled (bt xs) n q) ∨ ∃ g c q', v' = .slice (some ⟨g, 0, none⟩) n c ∧ q' ∈ ordL n ∧ revN (bt xs) q' < revN (bt xs) q ∧ ¬ settled (bt xs) n q ∧ Own w' W.heap.size (.slice (some ⟨g, 0, none⟩) n c) (nI q'))) := Lib.hid fun W q v hq hv hW => cImp HP.out (HR.out.below hW) hq hv
  clear hp hl hk
  go_enter Try.func54, Try.ntmps54
  go_wp2_with fail
  have b0 := below_alloc1 w (.cells #[.int .i64 n, .slice A n cA] 28)
  have x0 := TBox.new w n (.slice A n cA) 28
  generalize w.alloc (.cells #[.int .i64 n, .slice A n cA] 28) = w0 at *
  have HX0 := Lib.hid x0
  have HB0 := Lib.hid b0
  clear x0 b0
  have y0_0 := HX0.out.1
  have y1_0 := HX0.out.2
  go_wp2_with fail
  refine (cOrderOk HP.out (HR.out.below HB0.out) HL.out (HV.out.below HB0.out)).mono ?_
  rintro e w1 ⟨rfl, hb1⟩
  have HB1 := Lib.hid (Below.then HB0.out hb1)
  have HX1 := Lib.hid (HX0.out.below hb1)
  clear hb1 y0_0 y1_0 HX0 HB0
  have y0_1 := HX1.out.1
  have y1_1 := HX1.out.2
  go_wp2_with fail
  refine (clone_any _ (nI l) w1 (HV.out.below HB1.out) (by rw [HK.out]; omega) (by rw [HK.out]; omega)).mono ?_
  rintro e w2 ⟨v2, rfl, ho2, hb2⟩
  obtain ⟨g2, c2, rfl, -, -, -, -, -⟩ := ho2.at_ HK.out h1
  have HO2 := Lib.hid (ho2.mono HB1.out.size)
  have HX2 := Lib.hid (HX1.out.below hb2)
  have HB2 := Lib.hid (Below.then HB1.out hb2)
  clear ho2 hb2 HX1 HB1 y0_1 y1_1
  have y0_2 := HX2.out.1
  have y1_2 := HX2.out.2
  go_wp2_with fail
  refine (HIM.out w2 l _ HL.out HO2.out.rd HB2.out).mono ?_
  rintro e w3 ⟨v3, rfl, hb3, hv3⟩
  have HO3 := Lib.hid (HO2.out.below hb3)
  have HX3 := Lib.hid (HX2.out.below hb3)
  have HB3 := Lib.hid (Below.then HB2.out hb3)
  have HS2 := HB2.out.size
  have HN3 : Hid ((v3 = .slice none 0 0 ∧ settled (bt xs) n l) ∨ ∃ g c q', v3 = .slice (some ⟨g, 0, none⟩) n c ∧ q' ∈ ordL n ∧ revN (bt xs) q' < revN (bt xs) l ∧ ¬ settled (bt xs) n l ∧ Own w3 w.heap.size (.slice (some ⟨g, 0, none⟩) n c) (nI q')) := by
    rcases hv3 with h | ⟨g, c, q, e1, e2, e3, e4, e5⟩
    · exact .inl h
    · exact .inr ⟨g, c, q, e1, e2, e3, e4, e5.mono HS2⟩
  clear hv3 hb3 HO2 HX2 HB2 y0_2 y1_2
  go_wp2
  go_loopg [5, 6] (revN (bt xs) l) (fun k t5 t6 wr => ∃ (g c : Nat) (q : List Nat), t5 = .slice (some ⟨g, 0, none⟩) n c ∧ q ∈ ordL n ∧ revN (bt xs) q = k ∧ Hid (q = l ∨ (¬ settled (bt xs) n l ∧ revN (bt xs) q < revN (bt xs) l)) ∧ Hid (Own wr w.heap.size (.slice (some ⟨g, 0, none⟩) n c) (nI q)) ∧ Hid (TBox wr w.heap.size n (.slice A n cA)) ∧ Hid (Below w.heap.size w wr) ∧
    Hid ((t6 = .slice none 0 0 ∧ settled (bt xs) n q) ∨ ∃ g c q', t6 = .slice (some ⟨g, 0, none⟩) n c ∧ q' ∈ ordL n ∧ revN (bt xs) q' < revN (bt xs) q ∧ ¬ settled (bt xs) n q ∧ Own wr w.heap.size (.slice (some ⟨g, 0, none⟩) n c) (nI q')))
  case atStart => exact ⟨g2, c2, l, rfl, HL.out, rfl, Lib.hid (.inl rfl), HO3, HX3, HB3, HN3⟩
  case round =>
    obtain ⟨wa, rfl⟩ : ∃ x, x = wr := ⟨_, rfl⟩
    obtain ⟨g, c, q, rfl, hq, rfl, HI, HO, HX, HB, HN⟩ := hrel
    clear HO3 HX3 HB3 HN3
    rcases HN.out with ⟨rfl, hs⟩ | ⟨g', c', q', rfl, hq', hlt, hns, ho'⟩
    · as_aux_lemma =>
      have HSS := Lib.hid hs
      clear HN hs
      have HQ := Lib.hid hq
      clear hq
      go_wp2
      go_ret
      exact ⟨g, c, q, rfl, HQ.out, HSS.out, HI.out, HO.out, HB.out⟩
    · as_aux_lemma =>
      have HO' := Lib.hid ho'
      have HQ' := Lib.hid hq'
      have HI' : Hid (q' = l ∨ (¬ settled (bt xs) n l ∧ revN (bt xs) q' < revN (bt xs) l)) := by
        rcases HI.out with e | ⟨e1, e2⟩
        · subst e; exact .inr ⟨hns, hlt⟩
        · exact .inr ⟨e1, by omega⟩
      have HLT := Lib.hid hlt
      clear HN hq hq' hns ho' hlt HI HO
      have e0 : ∀ w : World, (binOp .neq 22 (.slice (some ⟨g', 0, none⟩) n c') (.slice none 0 0)).run Try.prog w = .ok (.bool true) w := fun _ => by kernel_rfl
      have y0 := HX.out.1
      have y1 := HX.out.2
      go_wp2_with fail
      refine (HIM.out wa q' _ HQ'.out HO'.out.rd HB.out).mono ?_
      rintro e w3 ⟨v3, rfl, hb3, hv3⟩
      have HO3 := Lib.hid (HO'.out.below hb3)
      have HX3 := Lib.hid (HX.out.below hb3)
      have HB3 := Lib.hid (Below.then HB.out hb3)
      have HS2 := HB.out.size
      have HN3 : Hid ((v3 = .slice none 0 0 ∧ settled (bt xs) n q') ∨ ∃ g c q'', v3 = .slice (some ⟨g, 0, none⟩) n c ∧ q'' ∈ ordL n ∧ revN (bt xs) q'' < revN (bt xs) q' ∧ ¬ settled (bt xs) n q' ∧ Own w3 w.heap.size (.slice (some ⟨g, 0, none⟩) n c) (nI q'')) := by
        rcases hv3 with h | ⟨g, c, q, e1, e2, e3, e4, e5⟩
        · exact .inl h
        · exact .inr ⟨g, c, q, e1, e2, e3, e4, e5.mono HS2⟩
      clear hv3 hb3 HO' HX HB y0 y1
      go_wp2
      go_roundg (revN (bt xs) q')
      case measure => exact HLT.out
      case rel => exact ⟨g', c', q', rfl, HQ'.out, rfl, HI', HO3, HX3, HB3, HN3⟩
open Classical in
noncomputable def trB (xs : List Int) (n : Nat) : Bool := decide (transP xs n)
theorem trB_iff {xs : List Int} {n : Nat} : trB xs n = true ↔ transP xs n := by unfold trB; simp
set_option maxHeartbeats 2000000 in
theorem cTrans (hp : tourP n xs) (h : Rd w sl xs) : Calls Try.prog 59 #[.agg #[.int .i64 n, sl]] w fun e w' => e = .returned (.bool (trB xs n)) ∧ Below w.heap.size w w' := by
  have HR := Lib.hid h
  obtain ⟨A, cA, rfl, -, -, -⟩ := h
  rw [tour_len hp] at *
  have HP := Lib.hid hp
  have HT : Hid (trB xs n = decide ((partsN xs (2 ^ n - 1)).length = n)) := by
    unfold Hid
    rw [Bool.eq_iff_iff, trB_iff, decide_eq_true_eq, trans_iff hp]
  clear hp
  go_enter Try.func59, Try.ntmps59
  go_wp2_with fail
  have b0 := below_alloc1 w (.cells #[.int .i64 n, .slice A n cA] 28)
  have x0 := TBox.new w n (.slice A n cA) 28
  generalize w.alloc (.cells #[.int .i64 n, .slice A n cA] 28) = w0 at *
  have HX0 := Lib.hid x0
  have HB0 := Lib.hid b0
  clear x0 b0
  have y0_0 := HX0.out.1
  have y1_0 := HX0.out.2
  have KP : Hid (∀ W, Below w0.heap.size w0 W → (W.cell? ⟨w.heap.size, 0, none⟩ = some (.int .i64 n) ∧ W.cell? ⟨w.heap.size, 1, none⟩ = some (.slice A n cA))) := Lib.hid fun W hW => ⟨(HX0.out.below hW).1, (HX0.out.below hW).2⟩
  have KT : Hid (∀ W, Below w0.heap.size w0 W → Calls Try.prog 72 #[.agg #[.int .i64 n, .slice A n cA]] W fun e w' => e = .returned (.bool true) ∧ Below W.heap.size W w') := Lib.hid fun W hW => by
    have := implTourOk n (.slice A n cA) xs W (HR.out.below (Below.then HB0.out hW))
    rw [tourB_true.2 HP.out] at this
    exact this
  have KM : Hid (∀ W, Below w0.heap.size w0 W → Calls Try.prog 88 #[.agg #[.int .i64 n, .slice A n cA]] W fun e w' => ∃ A c, e = .returned (.slice A (partsN xs (2 ^ n - 1)).length c) ∧ Below W.heap.size W w') := Lib.hid fun W hW =>
    (cPartsM HP.out (HR.out.below (Below.then HB0.out hW))).mono fun e w' ⟨A, c, h1, _, _, h4⟩ => ⟨A, c, h1, h4⟩
  generalize (partsN xs (2 ^ n - 1)).length = m at *
  have BB0 : Below w0.heap.size w0 w0.drew := (Below.refl _ _).drew
  refine wp_region_held_drew (S := fun W => W.cell? ⟨w.heap.size, 0, none⟩ = some (.int .i64 n) ∧ W.cell? ⟨w.heap.size, 1, none⟩ = some (.slice A n cA)) (by kernel_rfl) (KP.out _ BB0) (fun hS0 => ?_)
  refine hTake (i := 0) (v := ?v0_1) rfl (by kernel_rfl) (by kernel_rfl) (by kernel_rfl) (fun _ _ _ h => h) (Or.inl ⟨by rfl, ?hy0_1⟩) hS0 ?rest0_1
  case hy0_1 =>
    intro W hSw
    (try dsimp only at hSw)
    go_simp
    first | done | (with_reducible rfl)
  try simp only [Act.put, List.setIfInBounds_toArray, List.set_cons_zero, List.set_cons_succ]
  refine wpAnyH_ready (rs := [1]) (by kernel_rfl) (by simp) ?_
  refine hStep (i := 1) rfl (fun K hK => ?_) AllReadyH.nil
  go_simp; go_at_call 72; refine (KT.out _ BB0).mono ?_; rintro e v1 ⟨rfl, hb⟩; have BB1 := Below.then BB0 hb; clear hb; try go_wp2_with fail
  refine hK.out _ _ ?_ (fun hS1 => ?_)
  · (try dsimp only); exact KP.out _ BB1
  clear hK K
  try simp only [Act.put, List.setIfInBounds_toArray, List.set_cons_zero, List.set_cons_succ]
  refine hTake (i := 2) (v := ?v2_2) rfl (by kernel_rfl) (by kernel_rfl) (by kernel_rfl) (fun _ _ _ h => h) (Or.inl ⟨by rfl, ?hy2_2⟩) hS1 ?rest2_2
  case hy2_2 =>
    intro W hSw
    (try dsimp only at hSw)
    go_simp
    first | done | (with_reducible rfl)
  try simp only [Act.put, List.setIfInBounds_toArray, List.set_cons_zero, List.set_cons_succ]
  refine hTake (i := 3) (v := ?v3_3) rfl (by kernel_rfl) (by kernel_rfl) (by kernel_rfl) (fun _ _ _ h => h) (Or.inl ⟨by rfl, ?hy3_3⟩) hS1 ?rest3_3
  case hy3_3 =>
    intro W hSw
    (try dsimp only at hSw)
    go_simp
    first | done | (with_reducible rfl)
  try simp only [Act.put, List.setIfInBounds_toArray, List.set_cons_zero, List.set_cons_succ]
  refine hTake (i := 6) (v := ?v6_4) rfl (by kernel_rfl) (by kernel_rfl) (by kernel_rfl) (fun _ _ _ h => h) (Or.inl ⟨by rfl, ?hy6_4⟩) hS1 ?rest6_4
  case hy6_4 =>
    intro W hSw
    (try dsimp only at hSw)
    go_simp
    first | done | (with_reducible rfl)
  try simp only [Act.put, List.setIfInBounds_toArray, List.set_cons_zero, List.set_cons_succ]
  refine hTake (i := 7) (v := ?v7_5) rfl (by kernel_rfl) (by kernel_rfl) (by kernel_rfl) (fun _ _ _ h => h) (Or.inl ⟨by rfl, ?hy7_5⟩) hS1 ?rest7_5
  case hy7_5 =>
    intro W hSw
    (try dsimp only at hSw)
    go_simp
    first | done | (with_reducible rfl)
  try simp only [Act.put, List.setIfInBounds_toArray, List.set_cons_zero, List.set_cons_succ]
  refine wpAnyH_ready (rs := [4]) (by kernel_rfl) (by simp) ?_
  refine hStep (i := 4) rfl (fun K hK => ?_) AllReadyH.nil
  go_simp; go_at_call 88; refine (KM.out _ BB1).mono ?_; rintro e v2 ⟨C2, c2, rfl, hb⟩; have BB2 := Below.then BB1 hb; clear hb; try go_wp2_with fail
  refine hK.out _ _ ?_ (fun hS2 => ?_)
  · (try dsimp only); exact KP.out _ BB2
  clear hK K
  try simp only [Act.put, List.setIfInBounds_toArray, List.set_cons_zero, List.set_cons_succ]
  refine hTake (i := 5) (v := ?v5_6) rfl (by kernel_rfl) (by kernel_rfl) (by kernel_rfl) (fun _ _ _ h => h) (Or.inl ⟨by rfl, ?hy5_6⟩) hS2 ?rest5_6
  case hy5_6 =>
    intro W hSw
    (try dsimp only at hSw)
    go_simp
    first | done | (with_reducible rfl)
  try simp only [Act.put, List.setIfInBounds_toArray, List.set_cons_zero, List.set_cons_succ]
  refine hTake (i := 8) (v := ?v8_7) rfl (by kernel_rfl) (by kernel_rfl) (by kernel_rfl) (fun _ _ _ h => h) (Or.inl ⟨by rfl, ?hy8_7⟩) hS2 ?rest8_7
  case hy8_7 =>
    intro W hSw
    (try dsimp only at hSw)
    go_simp
    first | done | (with_reducible rfl)
  try simp only [Act.put, List.setIfInBounds_toArray, List.set_cons_zero, List.set_cons_succ]
  refine hTake (i := 9) (v := ?v9_8) rfl (by kernel_rfl) (by kernel_rfl) (by kernel_rfl) (fun _ _ _ h => h) (Or.inl ⟨by rfl, ?hy9_8⟩) hS2 ?rest9_8
  case hy9_8 =>
    intro W hSw
    (try dsimp only at hSw)
    go_simp
    first | done | (with_reducible rfl)
  try simp only [Act.put, List.setIfInBounds_toArray, List.set_cons_zero, List.set_cons_succ]
  refine hTake (i := 10) (v := ?v10_9) rfl (by kernel_rfl) (by kernel_rfl) (by kernel_rfl) (fun _ _ _ h => h) (Or.inl ⟨by rfl, ?hy10_9⟩) hS2 ?rest10_9
  case hy10_9 =>
    intro W hSw
    (try dsimp only at hSw)
    go_simp
    first | done | (with_reducible rfl)
  try simp only [Act.put, List.setIfInBounds_toArray, List.set_cons_zero, List.set_cons_succ]
  refine wpAnyH_done (by kernel_rfl) ?_ _
  go_wp2
  go_ret
  exact ⟨by rw [HT.out]; simp; rw [Bool.eq_iff_iff, beq_iff_eq, decide_eq_true_eq]; omega, Below.then HB0.out BB2⟩
end Go.Proofs.Ytajeledbmnndmaa

namespace Go.Proofs.Ytajeledbmnndmaa
open Go.RowKit Go.Sort
set_option maxRecDepth 100000
variable {n : Nat} {sl ov : Value} {xs : List Int} {w : World} {l : List Nat}
theorem take_rowN {rows : List (List Int)} {k : Nat} (hk : k < rows.length) : strL xs (rows.take (k + 1)) = flR (strL xs (rows.take k)) (rows.getD k []) := by
  rw [List.take_succ_eq_append_getElem hk, strL_snoc]
  congr 1
  simp [List.getD_eq_getElem?_getD, hk]
theorem rd_set {w : World} {A : Option Addr} {m c : Nat} {ys : List Int} (h : Rd w (.slice A m c) ys) (p : Addr) (u : Value) (hne : ∀ a, A = some a → a.block ≠ p.block) : Rd (w.setCell p u) (.slice A m c) ys := by
  obtain ⟨A', c', e, h1, h2, h3⟩ := h
  injection e with e1 e2 e3
  subst e1 e2 e3
  refine ⟨A, c, rfl, h1, h2, fun h0 => ?_⟩
  obtain ⟨g, off, rfl, hg, hx⟩ := h3 h0
  refine ⟨g, off, rfl, by rw [World.size_setCell]; exact hg, fun k hk => ?_⟩
  rw [World.cell?_setCell_other _ _ _ _ (fun e => hne _ rfl (by rw [e]))]
  exact hx k hk
set_option maxHeartbeats 4000000 in
theorem cStraight0 (hp : tourP n xs) (h : Rd w sl xs) (hl : l ∈ ordL n) (ho : Rd w ov (nI l)) :
    Calls Try.prog 55 #[.agg #[.int .i64 n, sl], ov] w fun e w' => ∃ sl', e = .returned (.tuple #[.agg #[.int .i64 n, sl'], .bool true]) ∧ Own w' w.heap.size sl' (strL xs (bgN (bt xs) n l)) ∧ Below w.heap.size w w' := by
  have HR := Lib.hid h
  obtain ⟨A, cA, rfl, -, -, hcA⟩ := h
  have HA0 : Hid (∀ a, A = some a → a.block ≠ w.heap.size) := Lib.hid (by
    obtain ⟨g, off, rfl, hg, -⟩ := hcA (by rw [tour_len hp]; have := hp.1; omega)
    intro a ea
    injection ea with ea
    subst ea
    exact Nat.ne_of_lt hg)
  clear hcA
  rw [tour_len hp] at *
  have HP := Lib.hid hp
  have HL := Lib.hid hl
  have h8 : n ≤ 8 := by have := hp.1; omega
  have h1 : 1 ≤ n := by have := hp.1; omega
  have HV := Lib.hid ho
  obtain ⟨B, cB, rfl, -, -, -⟩ := ho
  generalize (nI l).length = kk at *
  have HTK : Hid (∀ k, k ≤ (bgN (bt xs) n l).length → tourP n (strL xs ((bgN (bt xs) n l).take k))) := Lib.hid fun k hk => (str_law hp ((bgN (bt xs) n l).take k) [] (fun r hr => by
    obtain ⟨a, b, ha, hb, hq, e⟩ := bgN_mem.1 (List.mem_of_mem_take hr)
    unfold bgP at hq
    rw [Bool.and_eq_true] at hq
    exact ⟨a, b, ha, hb, e, hq.1⟩) ((List.take_sublist _ _).nodup (bg_nodup _ (by omega) l))).1
  have HRW : Hid (∀ k, k < (bgN (bt xs) n l).length → ∃ a b : Nat, a < n ∧ b < n ∧ (bgN (bt xs) n l).getD k [] = [(a : Int), (b : Int)]) := Lib.hid fun k hk => by
    have e : (bgN (bt xs) n l).getD k [] = (bgN (bt xs) n l)[k] := by simp [List.getD_eq_getElem?_getD, hk]
    obtain ⟨a, b, ha, hb, -, e2⟩ := bgN_mem.1 (List.getElem_mem hk)
    exact ⟨a, b, ha, hb, e.trans e2⟩
  have HST := Lib.hid (fun k (hk : k < (bgN (bt xs) n l).length) => take_rowN (xs := xs) hk)
  have HTL : Hid (strL xs ((bgN (bt xs) n l).take (bgN (bt xs) n l).length) = strL xs (bgN (bt xs) n l)) := Lib.hid (by rw [List.take_length])
  have HT0' : Hid (strL xs ((bgN (bt xs) n l).take 0) = xs) := Lib.hid rfl
  have HLN : Hid ((bgN (bt xs) n l).length ≤ 64) := Lib.hid (by
    have := bgTo_len (bt xs) n l n
    have h2 : n * n ≤ 8 * 8 := Nat.mul_le_mul h8 h8
    unfold bgN; omega)
  clear hp hl
  go_enter Try.func55, Try.ntmps55
  go_wp2_with fail
  have b0 := (below_alloc1 w (.cells #[.int .i64 n, .slice A n cA] 28)).alloc (by simp) (.cells #[.int .i64 0, .slice none 0 0] 28)
  have x0 := (BoxF.new w n (.slice A n cA) 28).below (below_alloc1 _ (.cells #[.int .i64 0, .slice none 0 0] 28))
  have t0 := BoxF.new (w.alloc (.cells #[.int .i64 n, .slice A n cA] 28)) 0 (.slice none 0 0) 28
  simp only [World.size_alloc] at t0
  generalize (w.alloc (.cells #[.int .i64 n, .slice A n cA] 28)).alloc (.cells #[.int .i64 0, .slice none 0 0] 28) = w0 at *
  have HX0 := Lib.hid x0
  have HB0 := Lib.hid b0
  have HT0 := Lib.hid t0
  clear x0 b0 t0
  have y0_0 := HX0.out.1.1
  have y1_0 := HX0.out.1.2
  go_wp2_with fail
  refine (cOrderOk HP.out (HR.out.below HB0.out) HL.out (HV.out.below HB0.out)).mono ?_
  rintro e w1 ⟨rfl, hb1⟩
  have HB1 := Lib.hid (Below.then HB0.out hb1)
  have HX1 := Lib.hid (HX0.out.below hb1)
  have HT1 := Lib.hid (HT0.out.below hb1)
  clear hb1 y0_0 y1_0 HX0 HB0 HT0
  have y0_1 := HX1.out.1.1
  have y1_1 := HX1.out.1.2
  go_wp2_with fail
  refine (cBack HP.out (HR.out.below HB1.out) HL.out (HV.out.below HB1.out)).mono ?_
  rintro e w2 ⟨v2, rfl, ho2, hb2⟩
  generalize hrw : bgN (bt xs) n l = rows at *
  have HRWE := Lib.hid hrw
  clear hrw
  obtain ⟨C, cC, rfl, -⟩ := ho2.form
  have HO2 := Lib.hid ho2
  have HX2 := Lib.hid (HX1.out.below hb2)
  have HT2 := Lib.hid (HT1.out.below hb2)
  have HB2 := Lib.hid (Below.then HB1.out hb2)
  have hb2s := hb2.size
  have hgt1 : w.heap.size + 1 < w1.heap.size := HT1.out.gt
  clear ho2 hb2 HX1 HB1 HT1 y0_1 y1_1
  go_wp2
  go_loopw [17] (fun t17 wr => ∃ (k : Nat) (A2 : Option Addr) (d2 : Nat), k ≤ rows.length ∧ t17 = .int .i64 k ∧ Hid (BoxF wr w.heap.size n (.slice A2 n d2)) ∧ Hid (Rd wr (.slice A2 n d2) (strL xs (rows.take k))) ∧ Hid (∀ a, A2 = some a → a.block ≠ w.heap.size) ∧ Hid (BoxF wr (w.heap.size + 1) 0 (.slice none 0 0)) ∧ Hid (OwnRows wr w1.heap.size (.slice C rows.length cC) rows) ∧ Hid (Below w.heap.size w wr)) (fun t17 _ => rows.length - (intOf t17).toNat)
  case atStart => exact ⟨0, A, cA, by omega, rfl, HX2, Lib.hid (by rw [HT0'.out]; exact HR.out.below HB2.out), HA0, HT2, HO2, HB2⟩
  case round =>
    obtain ⟨wa, rfl⟩ : ∃ x, x = wr := ⟨_, rfl⟩
    obtain ⟨k, A2, d2, hk, rfl, HX, HS, HG, HT, HO, HB⟩ := hrel
    have hln := HLN.out
    clear HX2 HT2 HO2 HB2
    by_cases hlt : k < rows.length
    · as_aux_lemma =>
      obtain ⟨a, b, ha, hb, eab⟩ := HRW.out k hlt
      have HNX : Hid (strL xs (rows.take (k + 1)) = flipL (strL xs (rows.take k)) a b) := Lib.hid (by rw [HST.out k hlt, eab]; rfl)
      have HTK1 := Lib.hid (HTK.out k hk)
      generalize strL xs (rows.take k) = ys at *
      generalize hze : strL xs (rows.take (k + 1)) = zs at *
      have HZE := Lib.hid hze
      clear hze
      obtain ⟨C', cC', eC, -, -, hform⟩ := HO.out.form
      injection eC with eC1 eC2 eC3
      subst eC1 eC3
      obtain ⟨gr, rfl, hgr, hrow⟩ := hform (by omega)
      obtain ⟨B3, d3, zr, hor⟩ := hrow k hlt
      rw [eab] at zr hor
      obtain ⟨g3, c3, e3, -, -, -, hx3, -⟩ := hor.at_ rfl (by decide : 0 < 2)
      have zr2 : wa.cell? ⟨gr, k, none⟩ = some (.slice (some ⟨g3, 0, none⟩) 2 c3) := by rw [zr, e3]; rfl
      have z0 : wa.cell? ⟨g3, 0, none⟩ = some (.int .i64 a) := hx3 0 (by simp)
      have z1 : wa.cell? ⟨g3, 1, none⟩ = some (.int .i64 b) := hx3 1 (by simp)
      have hgw := HT.out.gt
      clear hform hrow zr hor hx3 e3
      have y0 := HX.out.1.1
      have y1 := HX.out.1.2
      have hEF : ∀ (args : Array Value) (W : World), (callFunc 98 args).run Try.prog W = .ok (.enter 98 args) W := fun args W => by kernel_rfl
      have hwa := HB.out.size
      go_wp2_with fail
      refine wp_region_heldT 8 (fun W => W.cell? ⟨w.heap.size, 0, none⟩ = some (.int .i64 n) ∧ W.cell? ⟨w.heap.size, 1, none⟩ = some (.slice A2 n d2) ∧ W.cell? ⟨g3, 0, none⟩ = some (.int .i64 a) ∧ W.cell? ⟨g3, 1, none⟩ = some (.int .i64 b)) (by kernel_rfl) (by kernel_rfl) ⟨y0, y1, z0, z1⟩ (fun hS0 => ?_)
      refine GoT.take (i := 0) (v := ?v0_1) rfl (by kernel_rfl) (by rfl) (by kernel_rfl) (by kernel_rfl) (fun _ _ _ h => h) (Or.inl ⟨by rfl, ?hy0_1⟩) hS0 ?rest0_1
      case hy0_1 =>
        intro W hSw
        (try dsimp only at hSw)
        go_simp
        first | done | (with_reducible rfl)
      try simp only [Act.put, List.setIfInBounds_toArray, List.set_cons_zero, List.set_cons_succ]
      refine GoT.take (i := 1) (v := ?v1_2) rfl (by kernel_rfl) (by rfl) (by kernel_rfl) (by kernel_rfl) (fun _ _ _ h => h) (Or.inl ⟨by rfl, ?hy1_2⟩) hS0 ?rest1_2
      case hy1_2 =>
        intro W hSw
        (try dsimp only at hSw)
        go_simp
        first | done | (with_reducible rfl)
      try simp only [Act.put, List.setIfInBounds_toArray, List.set_cons_zero, List.set_cons_succ]
      refine GoT.take (i := 2) (v := ?v2_3) rfl (by kernel_rfl) (by rfl) (by kernel_rfl) (by kernel_rfl) (fun _ _ _ h => h) (Or.inl ⟨by rfl, ?hy2_3⟩) hS0 ?rest2_3
      case hy2_3 =>
        intro W hSw
        (try dsimp only at hSw)
        go_simp
        first | done | (with_reducible rfl)
      try simp only [Act.put, List.setIfInBounds_toArray, List.set_cons_zero, List.set_cons_succ]
      refine GoT.take (i := 3) (v := ?v3_4) rfl (by kernel_rfl) (by rfl) (by kernel_rfl) (by kernel_rfl) (fun _ _ _ h => h) (Or.inl ⟨by rfl, ?hy3_4⟩) hS0 ?rest3_4
      case hy3_4 =>
        intro W hSw
        (try dsimp only at hSw)
        go_simp
        first | done | (with_reducible rfl)
      try simp only [Act.put, List.setIfInBounds_toArray, List.set_cons_zero, List.set_cons_succ]
      refine GoT.take (i := 4) (v := ?v4_5) rfl (by kernel_rfl) (by rfl) (by kernel_rfl) (by kernel_rfl) (fun _ _ _ h => h) (Or.inl ⟨by rfl, ?hy4_5⟩) hS0 ?rest4_5
      case hy4_5 =>
        intro W hSw
        (try dsimp only at hSw)
        go_simp
        first | done | (with_reducible rfl)
      try simp only [Act.put, List.setIfInBounds_toArray, List.set_cons_zero, List.set_cons_succ]
      refine GoT.take (i := 5) (v := ?v5_6) rfl (by kernel_rfl) (by rfl) (by kernel_rfl) (by kernel_rfl) (fun _ _ _ h => h) (Or.inl ⟨by rfl, ?hy5_6⟩) hS0 ?rest5_6
      case hy5_6 =>
        intro W hSw
        (try dsimp only at hSw)
        go_simp
        first | done | (with_reducible rfl)
      try simp only [Act.put, List.setIfInBounds_toArray, List.set_cons_zero, List.set_cons_succ]
      refine GoT.take (i := 6) (v := ?v6_7) rfl (by kernel_rfl) (by rfl) (by kernel_rfl) (by kernel_rfl) (fun _ _ _ h => h) (Or.inl ⟨by rfl, ?hy6_7⟩) hS0 ?rest6_7
      case hy6_7 =>
        intro W hSw
        (try dsimp only at hSw)
        go_simp
        first | done | (with_reducible rfl)
      try simp only [Act.put, List.setIfInBounds_toArray, List.set_cons_zero, List.set_cons_succ]
      refine GoT.one (i := 7) rfl (by rfl) (by kernel_rfl) (fun K hK => ?_)
      have BD : Below wa.heap.size wa wa.drew := (Below.refl _ _).drew
      refine step_call wa.drew (by rfl) 98 #[.tmp 21, .tmp 24, .tmp 27] _ (by rfl) #[.agg #[.int .i64 n, .slice A2 n d2], .int .i64 a, .int .i64 b] (by simp [Act.eval]) hEF ((cFlipped HTK1.out (HS.out.below BD) a b ha hb).mono ?_)
      rintro e w3 ⟨A3, d4, rfl, ho3, hb3⟩
      refine ⟨_, rfl, ?_⟩
      have hB3 := Below.then BD hb3
      have HX3 := Lib.hid (HX.out.below hB3)
      have HT3 := Lib.hid (HT.out.below hB3)
      have HO3 := Lib.hid (HO.out.below hB3)
      have HB3 := Lib.hid (Below.then HB.out hB3)
      have HF3 := Lib.hid (show Own w3 wa.heap.size (.slice A3 n d4) (flipL ys a b) from ho3)
      have q0 := (hB3.cell (World.block_lt_of_cell? _ _ z0)).trans z0
      have q1 := (hB3.cell (World.block_lt_of_cell? _ _ z1)).trans z1
      have v0 := HX3.out.1.1
      have v1 := HX3.out.1.2
      have f0 := HX3.out.2 0
      have f1 := HX3.out.2 1
      clear ho3 hb3 hB3 z0 z1 y0 y1 zr2
      refine hK.out _ _ ⟨v0, v1, q0, q1⟩ (fun _ => ?_)
      clear hK K hS0
      simp only [Act.put, List.setIfInBounds_toArray, List.set_cons_zero, List.set_cons_succ]
      refine GoT.stop (by kernel_rfl) ?_
      have hA3 : ∀ a', A3 = some a' → a'.block ≠ w.heap.size := fun a' ea => by
        have hfl : (flipL ys a b).length = n := by rw [flipL_len]; exact tour_len HTK1.out
        obtain ⟨g', c', e', hg', -⟩ := HF3.out.at_ hfl h1
        injection e' with e' _ _
        rw [e'] at ea
        injection ea with ea
        subst ea
        show g' ≠ w.heap.size
        omega
      have HA3 := Lib.hid hA3
      have HX4 := Lib.hid (HX3.out.set01 n (.slice A3 n d4))
      have HS4 : Hid (Rd ((w3.setCell ⟨w.heap.size, 0, none⟩ (.int .i64 n)).setCell ⟨w.heap.size, 1, none⟩ (.slice A3 n d4)) (.slice A3 n d4) zs) := Lib.hid (by rw [HNX.out]; exact rd_set (rd_set HF3.out.rd _ _ hA3) _ _ hA3)
      have HT4 := Lib.hid ((HT3.out.kept (setCell_grown _ ⟨w.heap.size, 0, none⟩ (.int .i64 n)) (by simp)).kept (setCell_grown _ ⟨w.heap.size, 1, none⟩ (.slice A3 n d4)) (by simp))
      have HO4 := Lib.hid ((HO3.out.kept_lo (setCell_grown _ ⟨w.heap.size, 0, none⟩ (.int .i64 n)) (by simp; omega)).kept_lo (setCell_grown _ ⟨w.heap.size, 1, none⟩ (.slice A3 n d4)) (by simp; omega))
      have HB4 := Lib.hid ((HB3.out.setCell (p := ⟨w.heap.size, 0, none⟩) (Nat.le_refl _) (.int .i64 n)).setCell (p := ⟨w.heap.size, 1, none⟩) (Nat.le_refl _) (.slice A3 n d4))
      clear hA3 HX3 HF3 HT3 HO3 HB3 HX HS HG HT HO HB q0 q1
      simp only [List.drop_succ_cons, List.drop_zero]
      go_wp2
      go_roundw
      case rel => exact ⟨k + 1, A3, d4, by omega, by go_num, HX4, by rw [HZE.out]; exact HS4, HA3, HT4, HO4, HB4⟩
      case measure => simp [intOf]; omega
    · as_aux_lemma =>
      obtain rfl : k = rows.length := by omega
      rw [HTL.out] at HS
      have HTT := Lib.hid (HTK.out rows.length (Nat.le_refl _))
      rw [HTL.out] at HTT
      have hrw := HRWE.out
      clear HRWE
      subst hrw
      have y0 := HX.out.1.1
      have y1 := HX.out.1.2
      have hEF : ∀ (args : Array Value) (W : World), (callFunc 109 args).run Try.prog W = .ok (.enter 109 args) W := fun args W => by kernel_rfl
      go_wp2_with fail
      refine wp_region_heldT 5 (fun W => W.cell? ⟨w.heap.size, 0, none⟩ = some (.int .i64 n) ∧ W.cell? ⟨w.heap.size, 1, none⟩ = some (.slice A2 n d2)) (by kernel_rfl) (by kernel_rfl) ⟨y0, y1⟩ (fun hS0 => ?_)
      refine GoT.take (i := 0) (v := ?v0_8) rfl (by kernel_rfl) (by rfl) (by kernel_rfl) (by kernel_rfl) (fun _ _ _ h => h) (Or.inl ⟨by rfl, ?hy0_8⟩) hS0 ?rest0_8
      case hy0_8 =>
        intro W hSw
        (try dsimp only at hSw)
        go_simp
        first | done | (with_reducible rfl)
      try simp only [Act.put, List.setIfInBounds_toArray, List.set_cons_zero, List.set_cons_succ]
      refine GoT.take (i := 1) (v := ?v1_9) rfl (by kernel_rfl) (by rfl) (by kernel_rfl) (by kernel_rfl) (fun _ _ _ h => h) (Or.inl ⟨by rfl, ?hy1_9⟩) hS0 ?rest1_9
      case hy1_9 =>
        intro W hSw
        (try dsimp only at hSw)
        go_simp
        first | done | (with_reducible rfl)
      try simp only [Act.put, List.setIfInBounds_toArray, List.set_cons_zero, List.set_cons_succ]
      refine GoT.take (i := 2) (v := ?v2_10) rfl (by kernel_rfl) (by rfl) (by kernel_rfl) (by kernel_rfl) (fun _ _ _ h => h) (Or.inl ⟨by rfl, ?hy2_10⟩) hS0 ?rest2_10
      case hy2_10 =>
        intro W hSw
        (try dsimp only at hSw)
        go_simp
        first | done | (with_reducible rfl)
      try simp only [Act.put, List.setIfInBounds_toArray, List.set_cons_zero, List.set_cons_succ]
      refine GoT.take (i := 3) (v := ?v3_11) rfl (by kernel_rfl) (by rfl) (by kernel_rfl) (by kernel_rfl) (fun _ _ _ h => h) (Or.inl ⟨by rfl, ?hy3_11⟩) hS0 ?rest3_11
      case hy3_11 =>
        intro W hSw
        (try dsimp only at hSw)
        go_simp
        first | done | (with_reducible rfl)
      try simp only [Act.put, List.setIfInBounds_toArray, List.set_cons_zero, List.set_cons_succ]
      refine GoT.one (i := 4) rfl (by rfl) (by kernel_rfl) (fun K hK => ?_)
      have BD : Below wa.heap.size wa wa.drew := (Below.refl _ _).drew
      refine step_call wa.drew (by rfl) 109 #[.tmp 33] _ (by rfl) #[.slice A2 n d2] (by simp [Act.eval]) hEF ((clone_any _ (strL xs (bgN (bt xs) n l)) _ (HS.out.below BD) (by rw [tour_len HTT.out]; exact h1) (by rw [tour_len HTT.out]; omega)).mono ?_)
      rintro e w4 ⟨sl', rfl, ho, hb4⟩
      refine ⟨_, rfl, ?_⟩
      obtain ⟨Y, cy, rfl, -, -, -⟩ := ho.form
      have HT1 := HT
      have HB1 := HB
      have hB4 := Below.then BD hb4
      have HT4 := HT.out.below hB4
      have HX4 := HX.out.below hB4
      have HB4 := Below.then HB.out hB4
      have v0 := HT4.1.1
      have v1 := HT4.1.2
      have f0 := HT4.2 0
      have f1 := HT4.2 1
      have q0 := HX4.1.1
      have q1 := HX4.1.2
      clear hb4 hB4 y0 y1 HX4
      refine hK.out _ _ ⟨q0, q1⟩ (fun _ => ?_)
      clear hK K hS0
      simp only [Act.put, List.setIfInBounds_toArray, List.set_cons_zero, List.set_cons_succ]
      refine GoT.stop (by kernel_rfl) ?_
      simp only [List.drop_succ_cons, List.drop_zero]
      have hgt := (HT4).gt
      have HOx := Lib.hid ((ho.kept (setCell_grown _ ⟨w.heap.size + 1, 0, none⟩ (.int .i64 n)) (own_ne (fun k hk => (ho.lt k hk).1) (by first | exact (HT1.out).gt | exact (HT0.out).gt | exact (HT2.out).gt | exact (HT3.out).gt | exact (HT4.out).gt | (simp; omega)))).kept (setCell_grown _ ⟨w.heap.size + 1, 1, none⟩ (.slice Y (strL xs (bgN (bt xs) n l)).length cy)) (own_ne (fun k hk => (ho.lt k hk).1) (by first | exact (HT1.out).gt | exact (HT0.out).gt | exact (HT2.out).gt | exact (HT3.out).gt | exact (HT4.out).gt | (simp; omega))))
      have HBx := Lib.hid ((HB4.setCell (p := ⟨w.heap.size + 1, 0, none⟩) (by simp) (.int .i64 n)).setCell (p := ⟨w.heap.size + 1, 1, none⟩) (by simp) (.slice Y (strL xs (bgN (bt xs) n l)).length cy))
      have R0 : Hid (((w4.setCell ⟨w.heap.size + 1, 0, none⟩ (.int .i64 n)).setCell ⟨w.heap.size + 1, 1, none⟩ (.slice Y (strL xs (bgN (bt xs) n l)).length cy)).cell? ⟨w.heap.size + 1, 0, none⟩ = some (.int .i64 n)) := (World.cell?_setCell_other _ _ _ _ (by simp)).trans (World.cell?_setCell_same _ _ _ v0)
      have R1 : Hid (((w4.setCell ⟨w.heap.size + 1, 0, none⟩ (.int .i64 n)).setCell ⟨w.heap.size + 1, 1, none⟩ (.slice Y (strL xs (bgN (bt xs) n l)).length cy)).cell? ⟨w.heap.size + 1, 1, none⟩ = some (.slice Y (strL xs (bgN (bt xs) n l)).length cy)) := World.cell?_setCell_same _ _ _ ((World.cell?_setCell_other _ _ _ _ (by simp)).trans v1)
      go_wp2
      have r0 := R0.out
      have r1 := R1.out
      refine bodyPost_ret (v := .tuple #[.agg #[.int .i64 n, .slice Y (strL xs (bgN (bt xs) n l)).length cy], .bool true]) (by simp only [results, Try.results55]; simp [go_sem, r0, r1]) rfl ⟨_, rfl, HOx.out.mono (by first | exact HB0.out.size | exact HB1.out.size | exact HB2.out.size | exact HB3.out.size | exact HB4.out.size), HBx.out⟩
end Go.Proofs.Ytajeledbmnndmaa

namespace Go.Proofs.Ytajeledbmnndmaa
open Go.RowKit Go.Sort
set_option maxRecDepth 100000
variable {n : Nat} {sl sl2 ov : Value} {xs ys : List Int} {w : World} {l : List Nat}
set_option maxHeartbeats 2000000 in
theorem cFeedback (hp : tourP n xs) (h : Rd w sl xs) : Calls Try.prog 61 #[.agg #[.int .i64 n, sl]] w fun e w' => ∃ v, e = .returned v ∧ OwnRows w' w.heap.size v (bgN (bt xs) n (bestO (bt xs) n)) ∧ Below w.heap.size w w' := by
  have HR := Lib.hid h
  obtain ⟨A, cA, rfl, -, -, -⟩ := h
  rw [tour_len hp] at *
  have HP := Lib.hid hp
  have HBO := Lib.hid (bestO_law (r := bt xs) (n := n) (bt_irr hp)).1
  clear hp
  go_enter Try.func61, Try.ntmps61
  go_wp2_with fail
  have b0 := below_alloc1 w (.cells #[.int .i64 n, .slice A n cA] 28)
  have x0 := TBox.new w n (.slice A n cA) 28
  generalize w.alloc (.cells #[.int .i64 n, .slice A n cA] 28) = w0 at *
  have HX0 := Lib.hid x0
  have HB0 := Lib.hid b0
  clear x0 b0
  have y0_0 := HX0.out.1
  have y1_0 := HX0.out.2
  have KP : Hid (∀ W, Below w0.heap.size w0 W → (W.cell? ⟨w.heap.size, 0, none⟩ = some (.int .i64 n) ∧ W.cell? ⟨w.heap.size, 1, none⟩ = some (.slice A n cA))) := Lib.hid fun W hW => ⟨(HX0.out.below hW).1, (HX0.out.below hW).2⟩
  have KB : Hid (∀ W, Below w0.heap.size w0 W → Calls Try.prog 51 #[.agg #[.int .i64 n, .slice A n cA]] W fun e w' => ∃ v', e = .returned v' ∧ Own w' W.heap.size v' (nI (bestO (bt xs) n)) ∧ Below W.heap.size W w') := Lib.hid fun W hW => cBestO HP.out (HR.out.below (Below.then HB0.out hW))
  have KG : Hid (∀ W v, Below w0.heap.size w0 W → Rd W v (nI (bestO (bt xs) n)) → Calls Try.prog 56 #[.agg #[.int .i64 n, .slice A n cA], v] W fun e w' => ∃ v', e = .returned v' ∧ OwnRows w' W.heap.size v' (bgN (bt xs) n (bestO (bt xs) n)) ∧ Below W.heap.size W w') := Lib.hid fun W v hW hv => cBackGames HP.out (HR.out.below (Below.then HB0.out hW)) HBO.out hv
  have BB0 : Below w0.heap.size w0 w0.drew := (Below.refl _ _).drew
  refine wp_region_held_drew (S := fun W => W.cell? ⟨w.heap.size, 0, none⟩ = some (.int .i64 n) ∧ W.cell? ⟨w.heap.size, 1, none⟩ = some (.slice A n cA)) (by kernel_rfl) (KP.out _ BB0) (fun hS0 => ?_)
  refine hTake (i := 0) (v := ?v0_1) rfl (by kernel_rfl) (by kernel_rfl) (by kernel_rfl) (fun _ _ _ h => h) (Or.inl ⟨by rfl, ?hy0_1⟩) hS0 ?rest0_1
  case hy0_1 =>
    intro W hSw
    (try dsimp only at hSw)
    go_simp
    first | done | (with_reducible rfl)
  try simp only [Act.put, List.setIfInBounds_toArray, List.set_cons_zero, List.set_cons_succ]
  refine hTake (i := 1) (v := ?v1_2) rfl (by kernel_rfl) (by kernel_rfl) (by kernel_rfl) (fun _ _ _ h => h) (Or.inl ⟨by rfl, ?hy1_2⟩) hS0 ?rest1_2
  case hy1_2 =>
    intro W hSw
    (try dsimp only at hSw)
    go_simp
    first | done | (with_reducible rfl)
  try simp only [Act.put, List.setIfInBounds_toArray, List.set_cons_zero, List.set_cons_succ]
  refine wpAnyH_ready (rs := [2]) (by kernel_rfl) (by simp) ?_
  refine hStep (i := 2) rfl (fun K hK => ?_) AllReadyH.nil
  go_simp; go_at_call 51; refine (KB.out _ BB0).mono ?_; rintro e v1 ⟨vb, rfl, ho1, hb⟩; have HO1 := Lib.hid ho1; have BB1 := Below.then BB0 hb; clear hb ho1; try go_wp2_with fail
  refine hK.out _ _ ?_ (fun hS1 => ?_)
  · (try dsimp only); exact KP.out _ BB1
  clear hK K
  try simp only [Act.put, List.setIfInBounds_toArray, List.set_cons_zero, List.set_cons_succ]
  refine wpAnyH_ready (rs := [3]) (by kernel_rfl) (by simp) ?_
  refine hStep (i := 3) rfl (fun K hK => ?_) AllReadyH.nil
  go_simp; go_at_call 56; refine (KG.out _ _ BB1 HO1.out.rd).mono ?_; rintro e v2 ⟨vg, rfl, ho2, hb⟩; have HO2 := Lib.hid ho2; have BB2 := Below.then BB1 hb; clear hb ho2; try go_wp2_with fail
  refine hK.out _ _ ?_ (fun hS2 => ?_)
  · (try dsimp only); exact KP.out _ BB2
  clear hK K
  try simp only [Act.put, List.setIfInBounds_toArray, List.set_cons_zero, List.set_cons_succ]
  refine hTake (i := 4) (v := ?v4_3) rfl (by kernel_rfl) (by kernel_rfl) (by kernel_rfl) (fun _ _ _ h => h) (Or.inl ⟨by rfl, ?hy4_3⟩) hS2 ?rest4_3
  case hy4_3 =>
    intro W hSw
    (try dsimp only at hSw)
    go_simp
    first | done | (with_reducible rfl)
  try simp only [Act.put, List.setIfInBounds_toArray, List.set_cons_zero, List.set_cons_succ]
  refine wpAnyH_done (by kernel_rfl) ?_ _
  go_wp2
  go_ret
  exact ⟨vg, rfl, HO2.out.mono (by have h1 := HB0.out.size; have h2 := BB1.size; omega), Below.then HB0.out BB2⟩
/-- how many games differ -/
def dfK (xs ys : List Int) (n k : Nat) : Nat := ((List.range k).map fun a => (List.range n).countP fun b => bt xs a b && !bt ys a b).sum
theorem dfK_succ (xs ys : List Int) (n k : Nat) : dfK xs ys n (k + 1) = dfK xs ys n k + (List.range n).countP fun b => bt xs k b && !bt ys k b := by
  unfold dfK
  rw [List.range_succ, List.map_append, List.sum_append]
  simp
theorem dfK_le (xs ys : List Int) (n k : Nat) : dfK xs ys n k ≤ k * n := by
  induction k with
  | zero => simp [dfK]
  | succ k ih =>
    rw [dfK_succ, Nat.succ_mul]
    have : (List.range n).countP (fun b => bt xs k b && !bt ys k b) ≤ n := Nat.le_trans List.countP_le_length (by rw [List.length_range]; exact Nat.le_refl _)
    omega
theorem df_pop {a : Nat} (hp : tourP n xs) (ha : a < n) : popN 8 (less (winsN xs a) (winsN ys a)) = (List.range n).countP fun b => bt xs a b && !bt ys a b := by
  have h8 : n ≤ 8 := by have := hp.1; omega
  have hw := (tour_wins hp (a := a) (by rw [tour_len hp]; exact ha)).2
  have hn : winsN xs a < 2 ^ n := by have := hw.1; rwa [show ((n : Int)).toNat = n from rfl] at this
  have hlt := less_lt (b := winsN ys a) hn
  rw [pop_mem (Nat.lt_of_lt_of_le hlt (pow_le h8)), memN_top h8 (Nat.div_eq_of_lt hlt)]
  unfold memN
  rw [← List.countP_eq_length_filter]
  refine List.countP_congr fun b _ => ?_
  rw [testBit_less]
/-- a straightened tour differs in the reversed games -/
theorem df_straight (hp : tourP n xs) (hl : l ∈ ordL n) : dfK xs (strL xs (bgN (bt xs) n l)) n n = revN (bt xs) l := by
  rw [← bgN_len hl]
  unfold bgN bgTo bgIn dfK
  rw [countP_two (fun a b => bgP (bt xs) l a b)]
  congr 1
  refine List.map_congr_left fun a ha => ?_
  refine List.countP_congr fun b hb => ?_
  have ha := List.mem_range.1 ha
  have hb := List.mem_range.1 hb
  have := (straight hp hl).2 a b ha hb
  unfold bgN bgTo bgIn at this
  rw [this]
  unfold bgP
  rcases q : bt xs a b with _ | _
  · simp
  · have hne := (bt_asym hp ha hb q).2
    have hidx : l.idxOf a ≠ l.idxOf b := fun e => by
      have ia := List.idxOf_lt_length_iff.2 (ord_all hl ha)
      have ib := List.idxOf_lt_length_iff.2 (ord_all hl hb)
      have e1 := List.getElem_idxOf ia
      have e2 := List.getElem_idxOf ib
      apply hne
      rw [← e1, ← e2]
      congr 1
    by_cases h : l.idxOf b < l.idxOf a
    · rw [decide_eq_true h, decide_eq_false (by omega)]; simp
    · rw [decide_eq_false h, decide_eq_true (by omega)]; simp
set_option maxHeartbeats 4000000 in
theorem cDiff (hp : tourP n xs) (h : Rd w sl xs) (hp2 : tourP n ys) (h2 : Rd w sl2 ys) :
    Calls Try.prog 60 #[.agg #[.int .i64 n, sl], .agg #[.int .i64 n, sl2]] w fun e w' => e = .returned (.int .i64 (dfK xs ys n n : Nat)) ∧ Below w.heap.size w w' := by
  have HR := Lib.hid h
  obtain ⟨g, off, c, rfl, hm, hg, hx⟩ := tour_cells h hp
  have HR2 := Lib.hid h2
  obtain ⟨g2, off2, c2, rfl, hm2, hg2, hx2⟩ := tour_cells h2 hp2
  rw [tour_len hp] at HR hx ⊢
  rw [tour_len hp2] at HR2 hx2 ⊢
  unfold maxLen at hm hm2
  have h1 : 1 ≤ n := by have := hp.1; omega
  have h8 : n ≤ 8 := by have := hp.1; omega
  have HX := Lib.hid (fun k (hk : k < n) => (show w.cell? ⟨g, off + k, none⟩ = some (.int .i64 (winsN xs k : Nat)) from by
    exact hx k hk))
  have HX2 := Lib.hid (fun k (hk : k < n) => (show w.cell? ⟨g2, off2 + k, none⟩ = some (.int .i64 (winsN ys k : Nat)) from by
    exact hx2 k hk))
  have HW := Lib.hid (fun k (hk : k < n) => (tour_wins hp (a := k) (by rw [tour_len hp]; exact hk)).2.2)
  have HW2 := Lib.hid (fun k (hk : k < n) => (tour_wins hp2 (a := k) (by rw [tour_len hp2]; exact hk)).2.2)
  have HDP := Lib.hid (fun k (hk : k < n) => df_pop (ys := ys) hp hk)
  have HDS := Lib.hid (fun k => dfK_succ xs ys n k)
  have HDL := Lib.hid (fun k => dfK_le xs ys n k)
  have HP := Lib.hid hp
  have HP2 := Lib.hid hp2
  clear hp hp2 hx hx2 h h2
  go_enter Try.func60, Try.ntmps60
  have bx := (below_alloc1 w (.cells #[.int .i64 n, .slice (some ⟨g, off, none⟩) n c] 28)).alloc (by simp) (.cells #[.int .i64 n, .slice (some ⟨g2, off2, none⟩) n c2] 28)
  have tx := (TBox.new w n (.slice (some ⟨g, off, none⟩) n c) 28).below (below_alloc1 _ (.cells #[.int .i64 n, .slice (some ⟨g2, off2, none⟩) n c2] 28))
  have tx2 := TBox.new (w.alloc (.cells #[.int .i64 n, .slice (some ⟨g, off, none⟩) n c] 28)) n (.slice (some ⟨g2, off2, none⟩) n c2) 28
  simp only [World.size_alloc] at tx2
  go_wp2_with fail
  generalize (w.alloc (.cells #[.int .i64 n, .slice (some ⟨g, off, none⟩) n c] 28)).alloc (.cells #[.int .i64 n, .slice (some ⟨g2, off2, none⟩) n c2] 28) = w0 at *
  have HB0 := Lib.hid bx
  have HA0 := Lib.hid tx
  have HC0 := Lib.hid tx2
  clear bx tx tx2
  have y0 := HA0.out.1
  have y1 := HA0.out.2
  have x0 := HC0.out.1
  have x1 := HC0.out.2
  go_wp2_with fail
  refine (implTourOk n _ xs _ (HR.out.below HB0.out)).mono ?_
  rintro e w1 ⟨rfl, hb1⟩
  rw [tourB_true.2 HP.out]
  have HA1 := Lib.hid (HA0.out.below hb1)
  have HC1 := Lib.hid (HC0.out.below hb1)
  have HB1 := Lib.hid (Below.then HB0.out hb1)
  clear hb1 y0 y1 x0 x1 HA0 HC0 HB0
  have y0 := HA1.out.1
  have y1 := HA1.out.2
  have x0 := HC1.out.1
  have x1 := HC1.out.2
  go_wp2_with fail
  refine (implTourOk n _ ys _ (HR2.out.below HB1.out)).mono ?_
  rintro e w2 ⟨rfl, hb2⟩
  rw [tourB_true.2 HP2.out]
  have HA2 := Lib.hid (HA1.out.below hb2)
  have HC2 := Lib.hid (HC1.out.below hb2)
  have HB2 := Lib.hid (Below.then HB1.out hb2)
  clear hb2 y0 y1 x0 x1 HA1 HC1 HB1
  have y0 := HA2.out.1
  have y1 := HA2.out.2
  have x0 := HC2.out.1
  have x1 := HC2.out.2
  go_wp2
  go_loop [5, 26] (fun t5 t26 => ∃ k : Nat, k ≤ n ∧ t26 = .int .i64 k ∧ t5 = .int .i64 (dfK xs ys n k : Nat)) (fun _ t26 => n - (intOf t26).toNat)
  case atStart => exact ⟨0, by omega, rfl, rfl⟩
  case round =>
    obtain ⟨k, hk, rfl, rfl⟩ := hrel
    by_cases hlt : k < n
    · have z0 := (HB2.out.cell (by exact hg)).trans (HX.out k hlt)
      have z1 := (HB2.out.cell (by exact hg2)).trans (HX2.out k hlt)
      have hw := HW.out k hlt
      have hw2 := HW2.out k hlt
      have hpop := HDP.out k hlt
      have HSU := Lib.hid (HDS.out k)
      have hle := HDL.out k
      have hkn : k * n ≤ 8 * 8 := Nat.mul_le_mul (by omega) h8
      have hle2 := popN_le 8 (less (winsN xs k) (winsN ys k))
      have HPO := Lib.hid hpop
      have hand := i64_andNot_nat (winsN xs k) (winsN ys k) (by omega) (by omega)
      have hl256 : less (winsN xs k) (winsN ys k) < 256 := less_lt (n := 8) (by omega)
      clear hpop
      generalize less (winsN xs k) (winsN ys k) = L at *
      generalize winsN xs k = X at *
      generalize winsN ys k = Y at *
      go_wp2_with fail
      refine (ones_any L _ hl256).mono ?_
      rintro e w3 ⟨rfl, rfl⟩
      rw [HPO.out] at hle2 ⊢
      go_wp2
      go_round
      case rel => exact ⟨k + 1, by omega, by go_num, by rw [HSU.out]; go_num⟩
      case measure => simp [intOf]; omega
    · obtain rfl : k = n := by omega
      go_wp2
      go_ret
      exact ⟨rfl, HB2.out⟩
end Go.Proofs.Ytajeledbmnndmaa

namespace Go.Proofs.Ytajeledbmnndmaa
open Go.RowKit Go.Sort
set_option maxRecDepth 100000
/-- an own slice of slices that lie in an older world -/
def OwnHd (wB w : World) (v : Value) (rows : List (List Int)) : Prop :=
  ∃ us : List Value, us.length = rows.length ∧ w.ownsRow wB.heap.size 22 1 v rows.length us ∧ ∀ k, k < rows.length → Rd wB (us.getD k (.slice none 0 0)) (rows.getD k [])
theorem OwnHd.nil_ (wB w : World) : OwnHd wB w (.slice none 0 0) [] := ⟨[], rfl, World.ownsRow_nil _ _ _ _, fun k h => absurd h (by simp)⟩
theorem OwnHd.below {wB w w' : World} {v : Value} {rows : List (List Int)} (h : OwnHd wB w v rows) (hb : Below w.heap.size w w') : OwnHd wB w' v rows := by
  obtain ⟨us, h1, h2, h3⟩ := h
  exact ⟨us, h1, ownsRow_below h2 hb, h3⟩
theorem OwnHd.lt {wB w : World} {v : Value} {rows : List (List Int)} (h : OwnHd wB w v rows) : ∀ k, v.ownBlock = some k → wB.heap.size ≤ k ∧ k < w.heap.size := by
  obtain ⟨us, h1, h2, h3⟩ := h
  exact World.ownsRow.lt h2
theorem OwnHd.rdr {wB w : World} {v : Value} {rows : List (List Int)} (h : OwnHd wB w v rows) (hb : Below wB.heap.size wB w) : RdRows w v rows := by
  obtain ⟨us, hl, ho, hr⟩ := h
  have hlt := World.ownsRow.lt ho
  have hc := fun g hg => World.ownsRow.cells ho (g := g) hg
  rcases ho.2 with ⟨rfl, e⟩ | ⟨g, cap, cur, rfl, hbb, hg, hle, hm, _⟩
  · exact ⟨none, 0, by rw [e], by unfold maxLen; omega, by omega, fun h => absurd h (by omega)⟩
  · refine ⟨_, cap, rfl, hm, hle, fun _ => ⟨g, rfl, (hlt g rfl).2, fun k hk => ?_⟩⟩
    have h1 := hc g rfl k (us.getD k (.slice none 0 0)) (by simp [show k < us.length by omega])
    rw [Addr.add_lit, Nat.zero_add] at h1
    exact ⟨_, h1, (hr k hk).below hb⟩
theorem wp_append1H {ops : Array Oper} {rest : List Oper} {o : Oper} {a : Act} {Q : Exit → Act → World → Prop} (w : World) (hgd : o.guard = none) (s x : Operand)
    (ho : o.op = .call { callee := .builtin .append, args := #[s, x], argTypes := #[53, 53] })
    (wB : World) (v : Value) (rows : List (List Int)) (u : Value) (xs : List Int) (hs : a.eval s = v) (hown0 : OwnHd wB w v rows) (hb0 : wB.heap.size ≤ w.heap.size) (hu0 : Rd wB u xs) (hx : a.eval x = .slice (some ⟨w.heap.size, 0, none⟩) 1 1)
    (hlen : rows.length ≤ 1048576)
    (h : ∀ v' w', OwnHd wB w' v' (rows ++ [xs]) → w.grownBy w' v.ownBlock → wpList Try.prog ops Q rest (a.put o.dst v') w') :
    wpList Try.prog ops Q (o :: rest) a (w.alloc (.cells #[u] 22)) := by
  obtain ⟨i0, hi, hz0, hz1, hz2⟩ := info_parts rows_info
  obtain ⟨us, hl, hor, hr⟩ := hown0
  have hor' : (w.alloc (.cells #[u] 22)).ownsRow wB.heap.size 22 1 v rows.length us := World.ownsRow.alloc hor _
  refine wpList_append_own _ hgd s x 53 ho wB.heap.size 22 i0 (.slice none 0 0) 1 24 Try.underlying53 hi hz0 hz1 hz2 rfl (by decide) v rows.length us hs hor' ⟨w.heap.size, 0, none⟩ 1 1 [u] hx rfl ?_ ?_ ?_ ?_ ?_ ?_
  · intro j y hj
    match j, hj with
    | 0, hj => simp at hj; subst hj; simp [Addr.add]
  · intro y hy
    simp at hy
    subst hy
    obtain ⟨B, d, e, _⟩ := hu0
    rw [e]; rfl
  · unfold maxLen; omega
  · omega
  · simp; omega
  · intro v' w' h1 h2 _
    have h2' := grown_of_alloc h2
    refine h v' w' ⟨us ++ [u], by simp [hl], by rw [List.length_append]; exact h1, fun k hk => ?_⟩ h2'
    rw [List.length_append, List.length_singleton] at hk
    by_cases hk2 : k < rows.length
    · have e1 : (us ++ [u]).getD k (.slice none 0 0) = us.getD k (.slice none 0 0) := by simp [List.getD_eq_getElem?_getD, List.getElem?_append_left (show k < us.length by omega)]
      have e3 : (rows ++ [xs]).getD k [] = rows.getD k [] := by simp [List.getD_eq_getElem?_getD, List.getElem?_append_left hk2]
      rw [e1, e3]
      exact hr k hk2
    · obtain rfl : k = rows.length := by omega
      have e2 : (us ++ [u]).getD rows.length (.slice none 0 0) = u := by simp [List.getD_eq_getElem?_getD, ← hl]
      have e3 : (rows ++ [xs]).getD rows.length [] = xs := by simp [List.getD_eq_getElem?_getD]
      rw [e2, e3]
      exact hu0
/-- the first row that p holds of -/
def findV (p : List Int → Bool) (xs : List (List Int)) : Int := match xs.findIdx? p with | some i => i | none => -1
theorem findV_hit {p : List Int → Bool} {xs : List (List Int)} {k : Nat} (hk : k < xs.length) (hp : p (xs.getD k []) = true) (hn : ∀ x ∈ xs.take k, p x = false) : findV p xs = k := by
  have e : xs.getD k [] = xs[k] := by simp [List.getD_eq_getElem?_getD, hk]
  rw [e] at hp
  unfold findV
  have : xs.findIdx? p = some k := by
    rw [List.findIdx?_eq_some_iff_getElem]
    refine ⟨hk, hp, fun j hj => ?_⟩
    rw [Bool.not_eq_true]
    exact hn _ (by rw [List.mem_iff_getElem]; exact ⟨j, by rw [List.length_take]; omega, by rw [List.getElem_take]⟩)
  rw [this]
theorem findV_miss {p : List Int → Bool} {xs : List (List Int)} (hn : ∀ x ∈ xs, p x = false) : findV p xs = -1 := by
  unfold findV
  rw [List.findIdx?_eq_none_iff.2 hn]
theorem findV_any (p : List Int → Bool) (xs : List (List Int)) : decide (0 ≤ findV p xs) = xs.any p := by
  unfold findV
  rcases h : xs.findIdx? p with _ | k
  · rw [List.findIdx?_eq_none_iff] at h
    have : xs.any p = false := by rw [List.any_eq_false]; intro x hx; rw [h x hx]; decide
    rw [this]; rfl
  · rw [List.findIdx?_eq_some_iff_getElem] at h
    obtain ⟨hk, hp, -⟩ := h
    have : xs.any p = true := by rw [List.any_eq_true]; exact ⟨_, List.getElem_mem hk, hp⟩
    rw [this]; simp
theorem findV_step {p : List Int → Bool} {xs : List (List Int)} {k : Nat} (hk : k < xs.length) (hp : p (xs.getD k []) = false) (h : ∀ x ∈ xs.take k, p x = false) : ∀ x ∈ xs.take (k + 1), p x = false := by
  have e : xs.getD k [] = xs[k] := by simp [List.getD_eq_getElem?_getD, hk]
  rw [e] at hp
  rw [List.take_succ_eq_append_getElem hk]
  intro x hx
  rw [List.mem_append, List.mem_singleton] at hx
  rcases hx with hx | rfl
  · exact h x hx
  · exact hp
set_option maxHeartbeats 1000000 in
theorem indexFuncV_any (F : FuncId) (caps : Array Value) (hE : Enters F) (v : Value) (rows : List (List Int)) (p : List Int → Bool) (w : World) (h : RdRows w v rows) (hlen : rows.length ≤ 1048576)
    (hf : ∀ k, k < rows.length → ∀ u w', Below w.heap.size w w' → Rd w' u (rows.getD k []) → Calls Try.prog F (#[u] ++ caps) w' fun e w'' => e = .returned (.bool (p (rows.getD k []))) ∧ Below w'.heap.size w' w'') :
    Calls Try.prog 142 #[v, .func (.func F) #[] caps] w fun e w' => e = .returned (.int .i64 (findV p rows)) ∧ Below w.heap.size w w' := by
  obtain ⟨A, c, rfl, hm1, hl1, hc1⟩ := h
  unfold maxLen at hm1
  generalize hn : rows.length = n at *
  have H1 := Lib.hid hn
  have H3 := Lib.hid hc1
  have HF := Lib.hid hf
  clear hn hc1 hf
  have hE' : ∀ (args : Array Value) (W : World), (callFunc F args).run Try.prog W = .ok (.enter F args) W := hE
  go_enter Try.func142, Try.ntmps142
  go_wp2
  go_loopw [8] (fun i wr => ∃ k : Nat, k ≤ n ∧ i = .int .i64 k ∧ Below w.heap.size w wr ∧ Hid (∀ x ∈ rows.take k, p x = false)) (fun i _ => n - (intOf i).toNat)
  case atStart => exact ⟨0, Nat.zero_le _, rfl, Below.refl _ _, by simp [Hid]⟩
  case round =>
    obtain ⟨k, hk, rfl, hb, HN⟩ := hrel
    by_cases hlt : k < n
    · obtain ⟨g, rfl, hg, hx⟩ := H3.out (by omega)
      obtain ⟨u, hu, hru⟩ := hx k hlt
      have hxk : wr.cell? ⟨g, k, none⟩ = some u := (hb.cell (by exact hg)).trans hu
      have HB := Lib.hid hb
      have HRU := Lib.hid (hru.below hb)
      obtain ⟨BU, cU, eU, -, -, -⟩ := hru
      subst eU
      clear hx hb hu
      go_wp2_with fail
      refine (HF.out k hlt _ wr HB.out HRU.out).mono ?_
      rintro e w1 ⟨rfl, hb1⟩
      have hbb1 : Below w.heap.size w w1 := Below.then HB.out hb1
      have HB1 := Lib.hid hbb1
      clear hb1 hbb1 hxk
      rcases hp : p (rows.getD k []) with _ | _
      · have HNN := Lib.hid (findV_step (by rw [H1.out]; exact hlt) hp HN.out)
        go_wp2_with fail
        go_roundw
        case rel => exact ⟨k + 1, by omega, by go_num, HB1.out, HNN⟩
        case measure => simp [intOf]; omega
      · have HNN := Lib.hid (findV_hit (by rw [H1.out]; exact hlt) hp HN.out)
        go_wp2_with fail
        go_ret
        exact ⟨ret_int HNN.out.symm, HB1.out⟩
    · obtain rfl : k = n := by omega
      go_wp2
      go_ret
      exact ⟨ret_int (findV_miss (by have := HN.out; rwa [List.take_of_length_le (by rw [H1.out]; exact Nat.le_refl _)] at this)).symm, hb⟩
set_option maxHeartbeats 1000000 in
theorem containsFuncV_any (F : FuncId) (caps : Array Value) (hE : Enters F) (v : Value) (rows : List (List Int)) (p : List Int → Bool) (w : World) (h : RdRows w v rows) (hlen : rows.length ≤ 1048576)
    (hf : ∀ k, k < rows.length → ∀ u w', Below w.heap.size w w' → Rd w' u (rows.getD k []) → Calls Try.prog F (#[u] ++ caps) w' fun e w'' => e = .returned (.bool (p (rows.getD k []))) ∧ Below w'.heap.size w' w'') :
    Calls Try.prog 113 #[v, .func (.func F) #[] caps] w fun e w' => e = .returned (.bool (rows.any p)) ∧ Below w.heap.size w w' := by
  have HF := Lib.hid hf
  clear hf
  have HRW := Lib.hid h
  obtain ⟨A, c, rfl, -, -, -⟩ := h
  go_enter Try.func113, Try.ntmps113
  go_wp2_with fail
  refine (indexFuncV_any F caps hE _ rows p w HRW.out hlen HF.out).mono ?_
  rintro e w1 ⟨rfl, hb⟩
  have HB := Lib.hid hb
  clear hb
  go_wp2
  go_ret
  exact ⟨ret_bool (findV_any p rows), HB.out⟩
/-- two lists of players share two at least -/
def meetN (r q : List Nat) : Bool := decide (2 ≤ popN 8 (setW r &&& setW q))
theorem setW_lt8 {r : List Nat} (h : ∀ x ∈ r, x < 8) : setW r < 256 := by
  refine lt_of_testBit (d := 8) fun m hm => ?_
  rw [testBit_setW]
  rcases q : r.contains m with _ | _
  · rfl
  · have := h m (by simpa using q)
    omega
theorem meet_two {r q : List Nat} (hr : ∀ x ∈ r, x < 8) {x y : Nat} (hxy : x ≠ y) (hx : x ∈ r) (hy : y ∈ r) (hx2 : x ∈ q) (hy2 : y ∈ q) : meetN r q = true := by
  unfold meetN
  rw [decide_eq_true_eq, pop_mem (Nat.lt_of_le_of_lt Nat.and_le_left (setW_lt8 hr))]
  have hm : ∀ z, z ∈ r → z ∈ q → z ∈ memN (setW r &&& setW q) 8 := fun z h1 h2 => mem_memN.2 ⟨hr z h1, by rw [Nat.testBit_and, testBit_setW, testBit_setW]; simp [h1, h2]⟩
  have := len_leG (q := [x, y]) (m := memN (setW r &&& setW q) 8) (by simp [hxy]) (fun z hz => by
    simp at hz
    rcases hz with rfl | rfl
    · exact hm _ hx hx2
    · exact hm _ hy hy2)
  simpa using this
/-- a triangle, and packed triangles -/
def triQ (xs : List Int) (n : Nat) (r : List Nat) : Prop := ∃ a b c : Nat, r = [a, b, c] ∧ a < n ∧ b < n ∧ c < n ∧ bt xs a b = true ∧ bt xs b c = true ∧ bt xs c a = true
theorem tri_back {xs : List Int} {n : Nat} {l r : List Nat} (hp : tourP n xs) (hl : l ∈ ordL n) (h : triQ xs n r) : ∃ x y : Nat, x ∈ r ∧ y ∈ r ∧ x ≠ y ∧ [(x : Int), (y : Int)] ∈ bgN (bt xs) n l := by
  obtain ⟨a, b, c, rfl, ha, hb, hc, h1, h2, h3⟩ := h
  have n1 := (bt_asym hp ha hb h1).2
  have n2 := (bt_asym hp hb hc h2).2
  have n3 := (bt_asym hp hc ha h3).2
  have hin : ∀ x y, x < n → y < n → bt xs x y = true → l.idxOf y < l.idxOf x → [(x : Int), (y : Int)] ∈ bgN (bt xs) n l := fun x y hx hy hb hi => bgN_mem.2 ⟨x, y, hx, hy, by unfold bgP; rw [hb, decide_eq_true hi]; rfl, rfl⟩
  have hidx : ∀ x y, x < n → y < n → x ≠ y → l.idxOf x ≠ l.idxOf y := fun x y hx hy hne e => by
    have ix := List.idxOf_lt_length_iff.2 (ord_all hl hx)
    have iy := List.idxOf_lt_length_iff.2 (ord_all hl hy)
    have e1 := List.getElem_idxOf ix
    have e2 := List.getElem_idxOf iy
    apply hne
    rw [← e1, ← e2]
    congr 1
  by_cases q1 : l.idxOf b < l.idxOf a
  · exact ⟨a, b, by simp, by simp, n1, hin a b ha hb h1 q1⟩
  · by_cases q2 : l.idxOf c < l.idxOf b
    · exact ⟨b, c, by simp, by simp, n2, hin b c hb hc h2 q2⟩
    · have i1 := hidx a b ha hb n1
      have i2 := hidx b c hb hc n2
      exact ⟨c, a, by simp, by simp, n3, hin c a hc ha h3 (by omega)⟩
theorem pack_few {xs : List Int} {n : Nat} {l : List Nat} (hp : tourP n xs) (hl : l ∈ ordL n) {out : List (List Nat)} (h1 : ∀ r ∈ out, triQ xs n r) (h2 : out.Pairwise fun r q => meetN q r = false) : out.length ≤ revN (bt xs) l := by
  have h8 : n ≤ 8 := by have := hp.1; omega
  rw [← bgN_len hl]
  have key : ∀ out : List (List Nat), (∀ r ∈ out, triQ xs n r) → out.Pairwise (fun r q => meetN q r = false) → ∃ ps : List (List Int), ps.length = out.length ∧ ps.Nodup ∧ (∀ p ∈ ps, p ∈ bgN (bt xs) n l) ∧ ∀ p ∈ ps, ∃ r ∈ out, ∃ x y : Nat, p = [(x : Int), (y : Int)] ∧ x ∈ r ∧ y ∈ r ∧ x ≠ y := by
    intro out
    induction out with
    | nil => intro _ _; exact ⟨[], rfl, List.nodup_nil, fun p hp => by simp at hp, fun p hp => by simp at hp⟩
    | cons r out ih =>
      intro h1 h2
      rw [List.pairwise_cons] at h2
      obtain ⟨ps, e1, e2, e3, e4⟩ := ih (fun q hq => h1 q (by simp [hq])) h2.2
      obtain ⟨x, y, hx, hy, hxy, hb⟩ := tri_back hp hl (h1 r (by simp))
      refine ⟨[(x : Int), (y : Int)] :: ps, by simp [e1], List.nodup_cons.2 ⟨fun hm => ?_, e2⟩, fun p hp => ?_, fun p hp => ?_⟩
      · obtain ⟨q, hq, x', y', e, hx', hy', -⟩ := e4 _ hm
        injection e with e5 e6
        injection e6 with e6 _
        have h5 : x = x' := by omega
        have h6 : y = y' := by omega
        subst h5 h6
        have hq8 : ∀ z ∈ q, z < 8 := fun z hz => by
          obtain ⟨a, b, c, rfl, ha, hb, hc, -⟩ := h1 q (by simp [hq])
          simp at hz
          omega
        have := h2.1 q hq
        rw [meet_two hq8 hxy hx' hy' hx hy] at this
        cases this
      · rcases List.mem_cons.1 hp with rfl | hp
        · exact hb
        · exact e3 p hp
      · rcases List.mem_cons.1 hp with rfl | hp
        · exact ⟨r, by simp, x, y, rfl, hx, hy, hxy⟩
        · obtain ⟨q, hq, h⟩ := e4 p hp
          exact ⟨q, by simp [hq], h⟩
  obtain ⟨ps, e1, e2, e3, -⟩ := key out h1 h2
  rw [← e1]
  exact len_leG e2 e3
end Go.Proofs.Ytajeledbmnndmaa

namespace Go.Proofs.Ytajeledbmnndmaa
open Go.RowKit Go.Sort
set_option maxRecDepth 100000
variable {n : Nat} {sl : Value} {xs : List Int} {w : World}
theorem nI_back (q : List Nat) : (nI q).map Int.toNat = q := by
  induction q with
  | nil => rfl
  | cons a q ih =>
    simp only [nI, List.map_cons] at ih ⊢
    rw [ih]; rfl
/-- all triangles, as lists of players -/
theorem triA_mem {xs : List Int} {n : Nat} (hp : tourP n xs) {r : List Int} (h : r ∈ triA xs n n) : ∃ q : List Nat, r = nI q ∧ triQ xs n q := by
  unfold triA at h
  rw [List.mem_flatMap] at h
  obtain ⟨a, ha, h⟩ := h
  unfold triB at h
  rw [List.mem_flatMap] at h
  obtain ⟨b, hb, h⟩ := h
  unfold triC at h
  rw [List.mem_map] at h
  obtain ⟨c, hc, e⟩ := h
  rw [List.mem_filter] at hc
  have ha := List.mem_range.1 ha
  have hb := List.mem_range.1 hb
  have hc1 := List.mem_range.1 hc.1
  have hc2 := hc.2
  unfold triP at hc2
  simp only [Bool.and_eq_true, decide_eq_true_eq] at hc2
  have hbt : ∀ x y, x < n → btI xs x y = true → bt xs x y = true := fun x y hx h => by
    obtain ⟨S, e, -⟩ := (tour_bits hp).1 x (by rw [tour_len hp]; exact hx)
    unfold btI at h
    rwa [bitI_bt e] at h
  exact ⟨[a, b, c], by rw [← e]; rfl, a, b, c, rfl, ha, hb, hc1, hbt _ _ ha hc2.2.2.1, hbt _ _ hb hc2.2.2.2.1, hbt _ _ hc1 hc2.2.2.2.2⟩
theorem triQ_lt {xs : List Int} {n : Nat} {q : List Nat} (h : triQ xs n q) : ∀ x ∈ q, x < n := by
  obtain ⟨a, b, c, rfl, ha, hb, hc, -⟩ := h
  intro x hx
  simp at hx
  omega
set_option maxHeartbeats 1000000 in
theorem cTriOf (hp : tourP n xs) (h : Rd w sl xs) : Calls Try.prog 112 #[.agg #[.int .i64 n, sl]] w fun e w' => ∃ v', e = .returned v' ∧ OwnRows w' w.heap.size v' (triA xs n n) ∧ Below w.heap.size w w' := by
  have HR := Lib.hid h
  obtain ⟨A, cA, rfl, -, -, -⟩ := h
  rw [tour_len hp] at *
  have HP := Lib.hid hp
  have HL := Lib.hid (tour_len hp)
  clear hp
  go_enter Try.func112, Try.ntmps112
  go_wp2_with fail
  have b0 := below_alloc1 w (.cells #[.int .i64 n, .slice A n cA] 28)
  have x0 := TBox.new w n (.slice A n cA) 28
  generalize w.alloc (.cells #[.int .i64 n, .slice A n cA] 28) = w0 at *
  have HX0 := Lib.hid x0
  have HB0 := Lib.hid b0
  clear x0 b0
  have y0_0 := HX0.out.1
  have y1_0 := HX0.out.2
  go_wp2_with fail
  refine (implTourOk n _ xs _ (HR.out.below HB0.out)).mono ?_
  rintro e w1 ⟨rfl, hb1⟩
  rw [tourB_true.2 HP.out]
  have HB1 := Lib.hid (Below.then HB0.out hb1)
  have HX1 := Lib.hid (HX0.out.below hb1)
  clear hb1 y0_0 y1_0 HX0 HB0
  have y0_1 := HX1.out.1
  have y1_1 := HX1.out.2
  go_wp2_with fail
  refine (triangles_any n _ xs _ (HR.out.below HB1.out) HP.out).mono ?_
  rintro e w2 ⟨v, rfl, ho2, hb2⟩
  rw [HL.out] at ho2
  have HB2 := Lib.hid (Below.then HB1.out hb2)
  have HO2 := Lib.hid (ho2.mono HB1.out.size)
  clear hb2 ho2
  go_wp2
  go_ret
  exact ⟨v, rfl, HO2.out, HB2.out⟩
set_option maxHeartbeats 1000000 in
theorem pk1_any (W : World) (u v : Value) (r q : List Nat) (gb : Nat) (hv : W.cell? ⟨gb, 0, none⟩ = some v) (hr : Rd W v (nI r)) (hq : Rd W u (nI q)) (h1 : ∀ x ∈ r, x < 8) (h2 : ∀ x ∈ q, x < 8) :
    Calls Try.prog 114 #[u, .pointer (some ⟨gb, 0, none⟩)] W fun e w' => e = .returned (.bool (meetN r q)) ∧ Below W.heap.size W w' := by
  have HR := Lib.hid hr
  have HQ := Lib.hid hq
  obtain ⟨A, c, rfl, -, -, -⟩ := hr
  obtain ⟨B, d, rfl, -, -, -⟩ := hq
  have H1 := Lib.hid h1
  have H2 := Lib.hid h2
  have hs1 := setW_lt8 h1
  have hs2 := setW_lt8 h2
  have hlt : setW r &&& setW q < 256 := Nat.lt_of_le_of_lt Nat.and_le_left hs1
  have hand := i64_and_nat (setW r) (setW q) (by omega) (by omega)
  have HM : Hid (meetN r q = decide (2 ≤ popN 8 (setW r &&& setW q))) := rfl
  clear h1 h2
  go_enter Try.func114, Try.ntmps114
  go_wp2_with fail
  refine (isetOf_any _ r _ HR.out H1.out).mono ?_
  rintro e w1 ⟨rfl, rfl⟩
  go_wp2_with fail
  refine (isetOf_any _ q _ HQ.out H2.out).mono ?_
  rintro e w1 ⟨rfl, rfl⟩
  generalize setW r &&& setW q = X at *
  generalize setW r = X1 at *
  generalize setW q = X2 at *
  go_wp2_with fail
  refine (ones_any X _ hlt).mono ?_
  rintro e w1 ⟨rfl, rfl⟩
  have hd : decide ((2 : Int) ≤ ((popN 8 X : Nat) : Int)) = decide (2 ≤ popN 8 X) := by rw [decide_eq_decide]; omega
  generalize popN 8 X = P at *
  go_wp2
  go_ret
  exact ⟨by rw [HM.out]; simp [hd], Below.refl _ _⟩
theorem enters_pk1 : Enters 114 := fun _ _ => by kernel_rfl
set_option maxHeartbeats 1000000 in
theorem cPack (hp : tourP n xs) (h : Rd w sl xs) : Calls Try.prog 63 #[.agg #[.int .i64 n, sl]] w fun e w' => ∃ (C : Option Addr) (c : Nat) (out : List (List Nat)), e = .returned (.slice C out.length c) ∧ (∀ r ∈ out, triQ xs n r) ∧ (out.Pairwise fun r q => meetN q r = false) ∧ Below w.heap.size w w' := by
  have HR := Lib.hid h
  obtain ⟨A, cA, rfl, -, -, -⟩ := h
  rw [tour_len hp] at *
  have HP := Lib.hid hp
  have h8 : n ≤ 8 := by have := hp.1; omega
  have HTM : Hid (∀ k, k < (triA xs n n).length → ∃ q : List Nat, (triA xs n n).getD k [] = nI q ∧ triQ xs n q) := Lib.hid fun k hk => by
    rw [show (triA xs n n).getD k [] = (triA xs n n)[k] by simp [hk]]
    exact triA_mem hp (List.getElem_mem hk)
  have HTL : Hid ((triA xs n n).length ≤ 512) := Lib.hid (by
    have h1 := triA_len xs n n
    have h2 := nmul_le h8 (Nat.le_refl n)
    omega)
  clear hp
  go_enter Try.func63, Try.ntmps63
  go_wp2_with fail
  have b0 := below_alloc1 w (.cells #[.int .i64 n, .slice A n cA] 28)
  have x0 := TBox.new w n (.slice A n cA) 28
  generalize w.alloc (.cells #[.int .i64 n, .slice A n cA] 28) = w0 at *
  have HX0 := Lib.hid x0
  have HB0 := Lib.hid b0
  clear x0 b0
  have y0_0 := HX0.out.1
  have y1_0 := HX0.out.2
  go_wp2_with fail
  refine (cTriOf HP.out (HR.out.below HB0.out)).mono ?_
  rintro e w2 ⟨v2, rfl, ho2, hb2⟩
  generalize triA xs n n = T at *
  have hro := ho2.rdr
  have HRO := Lib.hid hro
  obtain ⟨C, cC, rfl, hcC, hlC, hT⟩ := hro
  unfold maxLen at hcC
  have HT := Lib.hid hT
  have HB2 := Lib.hid (Below.then HB0.out hb2)
  have hln := HTL.out
  clear ho2 hb2 hT y0_0 y1_0 HX0 HB0
  go_wp2
  go_loopw [3, 10] (fun t3 t10 wr => ∃ (k : Nat) (out : List (List Nat)), k ≤ T.length ∧ t10 = .int .i64 k ∧ out.length ≤ k ∧ Hid (OwnHd w2 wr t3 (out.map nI)) ∧ Hid (∀ r ∈ out, triQ xs n r) ∧ Hid (out.Pairwise fun r q => meetN q r = false) ∧ Hid (Below w2.heap.size w2 wr)) (fun _ t10 _ => T.length - (intOf t10).toNat)
  case atStart => exact ⟨0, [], by omega, rfl, by simp, Lib.hid (OwnHd.nil_ _ _), Lib.hid (fun r h => by simp at h), Lib.hid List.Pairwise.nil, Lib.hid (Below.refl _ _)⟩
  case round =>
    obtain ⟨wa, rfl⟩ : ∃ x, x = wr := ⟨_, rfl⟩
    obtain ⟨k, out, hk, rfl, hol, HO, HQ, HPW, HB⟩ := hrel
    by_cases hlt : k < T.length
    · as_aux_lemma =>
      obtain ⟨g, rfl, hg, hx⟩ := HT.out (by omega)
      obtain ⟨u, hu, hru⟩ := hx k hlt
      obtain ⟨r, er, hr3⟩ := HTM.out k hlt
      rw [er] at hru
      have zu := (HB.out.cell (by exact hg)).trans hu
      have HRU := Lib.hid hru
      obtain ⟨BU, cU, rfl, -, -, -⟩ := hru
      generalize (nI r).length = lu at *
      have hr8 : ∀ x ∈ r, x < 8 := fun x hx => Nat.lt_of_lt_of_le (triQ_lt hr3 x hx) h8
      have HR3 := Lib.hid hr3
      have HR8 := Lib.hid hr8
      clear hx hu er hr3 hr8
      go_wp2_with fail
      have ba := below_alloc1 wa (.cells #[.slice BU lu cU] 22)
      have zb : (wa.alloc (.cells #[.slice BU lu cU] 22)).cell? ⟨wa.heap.size, 0, none⟩ = some (.slice BU lu cU) := by simp
      have HO1 := Lib.hid (HO.out.below ba)
      have HB1 := Lib.hid (Below.then HB.out ba)
      have HZB := Lib.hid zb
      generalize wa.alloc (.cells #[.slice BU lu cU] 22) = wb at *
      have hlm : (out.map nI).length ≤ 1048576 := by rw [List.length_map]; omega
      obtain ⟨P, hP⟩ : ∃ P : List Int → Bool, ∀ q, P (nI q) = meetN r q := ⟨fun x => meetN r (x.map Int.toNat), fun q => by
        show meetN r ((nI q).map Int.toNat) = meetN r q
        rw [nI_back]⟩
      have hcall : ∀ j, j < (out.map nI).length → ∀ u' w', Below wb.heap.size wb w' → Rd w' u' ((out.map nI).getD j []) → Calls Try.prog 114 (#[u'] ++ #[.pointer (some ⟨wa.heap.size, 0, none⟩)]) w' fun e w'' => e = .returned (.bool (P ((out.map nI).getD j []))) ∧ Below w'.heap.size w' w'' := fun j hj u' w' hw' hrd => by
        have hj' : j < out.length := by rw [List.length_map] at hj; exact hj
        have e1 : (out.map nI).getD j [] = nI out[j] := by simp [List.getD_eq_getElem?_getD, hj']
        rw [e1] at hrd ⊢
        rw [hP]
        exact pk1_any w' u' (.slice BU lu cU) r out[j] wa.heap.size ((hw'.cell (World.block_lt_of_cell? _ _ HZB.out)).trans HZB.out) ((HRU.out.below HB1.out).below hw') hrd HR8.out (fun x hx => Nat.lt_of_lt_of_le (triQ_lt (HQ.out _ (List.getElem_mem hj')) x hx) h8)
      have HAN : Hid ((out.map nI).any P = out.any fun q => meetN r q) := Lib.hid (by
        rw [List.any_map]
        congr 1
        funext q
        exact hP q)
      clear hP
      have hrr := HO1.out.rdr HB1.out
      refine (containsFuncV_any 114 #[.pointer (some ⟨wa.heap.size, 0, none⟩)] enters_pk1 _ (out.map nI) P wb hrr hlm hcall).mono ?_
      rintro e w3 ⟨rfl, hb3⟩
      have HO3 := Lib.hid (HO1.out.below hb3)
      have HB3 := Lib.hid (Below.then HB1.out hb3)
      have HZ3 := Lib.hid ((hb3.cell (World.block_lt_of_cell? _ _ HZB.out)).trans HZB.out)
      have hb60 := HB3.out.size
      rw [HAN.out]
      clear hb3 zb ba hrr hcall HO1 HB1 HZB HO HB HAN
      rcases qm : out.any (fun q => meetN r q) with _ | _
      · as_aux_lemma =>
        have HPQ : Hid ((out ++ [r]).Pairwise fun r q => meetN q r = false) := Lib.hid (by
          rw [List.pairwise_append]
          refine ⟨HPW.out, by simp, fun x hx y hy => ?_⟩
          simp at hy
          subst hy
          rw [List.any_eq_false] at qm
          simpa using qm x hx)
        have HQ2 : Hid (∀ x ∈ out ++ [r], triQ xs n x) := Lib.hid (fun x hx => by
          rcases List.mem_append.1 hx with hx | hx
          · exact HQ.out x hx
          · simp at hx; subst hx; exact HR3.out)
        have e3 : (out ++ [r]).map nI = out.map nI ++ [nI r] := by simp
        have HE3 := Lib.hid e3
        clear qm HPW HQ e3
        have z3 := HZ3.out
        have bx := below_alloc1 w3 (.cells #[.slice BU lu cU] 22)
        have HB4 := Lib.hid (Below.then HB3.out bx)
        clear bx
        go_wp2_with (at_builtin; refine wp_append1H w3 rfl (.tmp 19) (.tmp 21) rfl w2 _ (out.map nI) _ (nI r) rfl HO3.out hb60 HRU.out (by simp [Act.eval]) hlm ?_; intro v' w7 ho7 hg7; have HO7 := Lib.hid ho7; have HB7 := Lib.hid (HB3.out.grown hg7 hb60 (fun k hk => (HO3.out.lt k hk).1)); clear ho7 hg7)
        go_roundw
        case rel => exact ⟨k + 1, out ++ [r], by omega, by go_num, by simp; omega, by rw [HE3.out]; exact HO7, HQ2, HPQ, HB7⟩
        case measure => simp [intOf]; omega
      · as_aux_lemma =>
        clear qm
        go_wp2
        go_roundw
        case rel => exact ⟨k + 1, out, by omega, by go_num, by omega, HO3, HQ, HPW, HB3⟩
        case measure => simp [intOf]; omega
    · as_aux_lemma =>
      obtain rfl : k = T.length := by omega
      obtain ⟨D, dd, eD, -, -, -⟩ := HO.out.rdr HB.out
      rw [List.length_map] at eD
      subst eD
      go_wp2
      go_ret
      exact ⟨D, dd, out, rfl, HQ.out, HPW.out, Below.then HB2.out HB.out⟩
end Go.Proofs.Ytajeledbmnndmaa

