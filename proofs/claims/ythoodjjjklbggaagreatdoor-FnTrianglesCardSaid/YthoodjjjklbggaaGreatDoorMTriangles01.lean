/- Texts put together: Base, Sl, Hof, AllW, Box, Bits, Tour, TourOk, TourOkS. -/
import Derived.Test.YthoodjjjklbggaaGreatDoorRows
import Derived.WalkKit
import Derived.WalkSpells
import Derived.WalkLawsBesides
import Derived.Deep.QuietTactic
import Derived.BigQuiet
import Derived.Lib.Hide
import Derived.Lib.QuietBelow
import Derived.StillTailTactics
import Derived.Handy
import Derived.Deep.LoopGhost
import Derived.Laws.BitsAllLaws
import Derived.Laws.BitsLemmas
namespace Go.Proofs.YthoodjjjklbggaaGreatDoor
open Go.RowKit Go.Sort

theorem ret_int {k : IntKind} {a b : Int} (h : a = b) : Ending.returned (.int k a) = .returned (.int k b) := by rw [h]
theorem ret_bool {a b : Bool} (h : a = b) : Ending.returned (.bool a) = .returned (.bool b) := by rw [h]

theorem i64_info : (Tryz.prog.info? 3).map (fun i => (i.zero, i.size, i.bytes)) = some (some (.int .i64 0), 1, 8) := by kernel_rfl

/-- The numbers of the list are int64. -/
def I64s (xs : List Int) : Prop := ∀ x ∈ xs, -9223372036854775808 ≤ x ∧ x ≤ 9223372036854775807
theorem I64s.getD {xs : List Int} (h : I64s xs) (k : Nat) : -9223372036854775808 ≤ xs.getD k 0 ∧ xs.getD k 0 ≤ 9223372036854775807 := by
  rw [List.getD_eq_getElem?_getD]
  rcases hk : xs[k]? with _ | x
  · simp
  · exact h x (List.mem_of_getElem? hk)
theorem I64s.getD' {xs : List Int} (h : I64s xs) (k : Nat) : -9223372036854775808 ≤ xs[k]?.getD 0 ∧ xs[k]?.getD 0 ≤ 9223372036854775807 := by
  rw [← List.getD_eq_getElem?_getD]; exact h.getD k

/-- THE SLICE VALUE v READS AS THE LIST xs (of ints), in blocks that are there. -/
def Rd (w : World) (v : Value) (xs : List Int) : Prop :=
  ∃ (A : Option Addr) (c : Nat), v = .slice A xs.length c ∧ xs.length ≤ c ∧ c ≤ maxLen ∧
    (0 < xs.length → ∃ b off, A = some ⟨b, off, none⟩ ∧ b < w.heap.size ∧ ∀ k, k < xs.length → w.cell? ⟨b, off + k, none⟩ = some (.int .i64 (xs.getD k 0)))

theorem Rd.of_row {w : World} {x : Addr} {len cap : Nat} {zs : List Int} (hl : len ≤ cap) (hm : cap ≤ maxLen) (hz : len ≤ zs.length)
    (hcell : ∀ i, i < zs.length → w.cell? (x.add i) = some (.int .i64 (zs.getD i 0))) : Rd w (.slice (some x) len cap) (zs.take len) := by
  have hlen : (zs.take len).length = len := by rw [List.length_take]; omega
  refine ⟨some x, cap, by rw [hlen], by omega, hm, fun h0 => ?_⟩
  obtain ⟨b, off, spot⟩ := x
  have hc := hcell 0 (by omega)
  have hspot : spot = none := by simpa [Addr.add] using World.cell?_spot hc
  subst hspot
  refine ⟨b, off, rfl, ?_, fun k hk => ?_⟩
  · have := World.block_lt_of_cell? w _ hc
    simpa [Addr.add] using this
  · have := hcell k (by omega)
    rw [Addr.add_lit] at this
    rw [this]
    rw [hlen] at hk
    simp [hk]
theorem Rd.nil_ (w : World) : Rd w (.slice none 0 0) [] := ⟨none, 0, rfl, Nat.le_refl _, by unfold maxLen; omega, fun h => absurd h (by simp)⟩
theorem Rd.keep {w w' : World} {v : Value} {xs : List Int} (h : Rd w v xs) (hs : w.heap.size ≤ w'.heap.size) (hk : ∀ p : Addr, p.block < w.heap.size → w'.cell? p = w.cell? p) : Rd w' v xs := by
  obtain ⟨A, c, rfl, hl, hc, hb⟩ := h
  refine ⟨A, c, rfl, hl, hc, fun h0 => ?_⟩
  obtain ⟨b, off, rfl, hlt, hcell⟩ := hb h0
  exact ⟨b, off, rfl, by omega, fun k hk' => by rw [hk _ hlt]; exact hcell k hk'⟩
theorem Rd.below {w w' : World} {v : Value} {xs : List Int} (h : Rd w v xs) (hb : Below w.heap.size w w') : Rd w' v xs :=
  h.keep hb.size fun _ hp => hb.cell hp
theorem Rd.drewN {w : World} {v : Value} {xs : List Int} (h : Rd w v xs) (n : Nat) : Rd (w.drewN n) v xs := h
theorem Rd.alloc {w : World} {v : Value} {xs : List Int} (h : Rd w v xs) (o : Obj) : Rd (w.alloc o) v xs :=
  h.below ((Below.refl _ _).alloc (Nat.le_refl _) _)

/-- THE SLICE VALUE v IS NIL OR LIES AT THE HEAD OF A BLOCK FROM base ON, and holds xs. -/
def Own (w : World) (base : Nat) (v : Value) (xs : List Int) : Prop := w.ownsRow base 3 1 v xs.length (xs.map (Value.int .i64))

theorem Own.rd {w : World} {base : Nat} {v : Value} {xs : List Int} (h : Own w base v xs) : Rd w v xs := by
  have hc := fun g hg => World.ownsRow.cells h (g := g) hg
  have hlt := World.ownsRow.lt h
  rcases h.2 with ⟨rfl, h0⟩ | ⟨g, cap, cur, rfl, hb, hg, hle, hm, hs, ht⟩
  · have hx : xs = [] := List.eq_nil_of_length_eq_zero h0
    subst hx
    exact Rd.nil_ w
  · refine ⟨_, cap, rfl, hle, hm, fun _ => ⟨g, 0, rfl, (hlt g rfl).2, fun k hk => ?_⟩⟩
    have := hc g rfl k (.int .i64 (xs.getD k 0)) (by simp [hk])
    simpa [Addr.add_lit] using this
theorem Own.mono {w : World} {b b' : Nat} {v : Value} {xs : List Int} (h : Own w b v xs) (hb : b' ≤ b) : Own w b' v xs := by
  refine ⟨h.1, ?_⟩
  rcases h.2 with h0 | ⟨g, cap, cur, hv, hg, r⟩
  · exact .inl h0
  · exact .inr ⟨g, cap, cur, hv, by omega, r⟩
theorem Own.lt {w : World} {base : Nat} {v : Value} {xs : List Int} (h : Own w base v xs) : ∀ k, v.ownBlock = some k → base ≤ k ∧ k < w.heap.size := World.ownsRow.lt h
theorem Own.below {w w' : World} {base : Nat} {v : Value} {xs : List Int} (h : Own w base v xs) (hb : Below w.heap.size w w') : Own w' base v xs := by
  refine ⟨h.1, ?_⟩
  rcases h.2 with h0 | ⟨g, cap, cur, hv, hg, hh, r⟩
  · exact .inl h0
  · exact .inr ⟨g, cap, cur, hv, hg, by rw [hb.block g (Array.getElem?_eq_some_iff.1 hh).1]; exact hh, r⟩
theorem Own.drewN {w : World} {base : Nat} {v : Value} {xs : List Int} (h : Own w base v xs) (n : Nat) : Own (w.drewN n) base v xs := h
theorem Own.alloc {w : World} {base : Nat} {v : Value} {xs : List Int} (h : Own w base v xs) (o : Obj) : Own (w.alloc o) base v xs := World.ownsRow.alloc h o
/-- Another slice's cells are written: this one stays. -/
theorem Own.kept {w w' : World} {base : Nat} {v : Value} {xs : List Int} {row : Option Nat} (h : Own w base v xs) (hg : w.grownBy w' row) (hne : v.ownBlock = none ∨ v.ownBlock ≠ row) : Own w' base v xs := World.ownsRow.kept h hg hne
/-- Own slices made at different times lie in different blocks. -/
theorem Own.apart {w w' : World} {base base' : Nat} {v v' : Value} {xs ys : List Int} (h : Own w base v xs) (h' : Own w' base' v' ys) (hb : w.heap.size ≤ base') : v.ownBlock = none ∨ v.ownBlock ≠ v'.ownBlock := by
  rcases hv : v.ownBlock with _ | g
  · exact .inl rfl
  · right
    intro e
    have h1 := h.lt g hv
    have h2 := h'.lt g (by rw [← e])
    omega

theorem Own.form {w : World} {base : Nat} {v : Value} {xs : List Int} (h : Own w base v xs) :
    ∃ A c, v = .slice A xs.length c ∧ c ≤ maxLen ∧ xs.length ≤ c ∧ (0 < xs.length → ∃ g, A = some ⟨g, 0, none⟩ ∧ base ≤ g ∧ g < w.heap.size) := by
  have hl := h.lt
  rcases h.2 with ⟨rfl, e⟩ | ⟨g, cap, cur, rfl, hb, hg, hle, hm, _⟩
  · exact ⟨none, 0, by rw [e], by unfold maxLen; omega, by omega, fun h => absurd h (by omega)⟩
  · exact ⟨_, cap, rfl, hm, hle, fun _ => ⟨g, rfl, hb, (hl g rfl).2⟩⟩

/-- an own slice that is not empty: where it lies -/
theorem Own.at_ {w : World} {base : Nat} {v : Value} {xs : List Int} {n : Nat} (h : Own w base v xs) (hl : xs.length = n) (h0 : 0 < n) :
    ∃ g c, v = .slice (some ⟨g, 0, none⟩) n c ∧ base ≤ g ∧ c ≤ maxLen ∧ n ≤ c ∧ (∀ k, k < n → w.cell? ⟨g, k, none⟩ = some (.int .i64 (xs.getD k 0))) ∧ ∀ k, w.frozen? ⟨g, k, none⟩ = false := by
  have hc := h.rd
  subst hl
  have hr : w.ownsRow base 3 1 v xs.length (xs.map (Value.int .i64)) := h
  rcases h.2 with ⟨_, e⟩ | ⟨g, cap, cur, rfl, hb, hg, hle, hm, _⟩
  · omega
  · refine ⟨g, cap, rfl, hb, hm, hle, fun k hk => ?_, fun k => World.ownsRow.frozenAt hr k⟩
    obtain ⟨A, c, e, _, _, hx⟩ := hc
    obtain ⟨b, off, rfl, _, hx⟩ := hx h0
    injection e with e1 _ _
    injection e1 with e1
    injection e1 with e1 e2 _
    subst e1
    subst e2
    have := hx k hk
    simpa using this
/-- a store into an own slice -/
theorem Own.set_ {w : World} {base g n c : Nat} {xs : List Int} (h : Own w base (.slice (some ⟨g, 0, none⟩) n c) xs) (hl : xs.length = n) (k : Nat) (y : Int) :
    Own (w.setCell ⟨g, k, none⟩ (.int .i64 y)) base (.slice (some ⟨g, 0, none⟩) n c) (xs.set k y) ∧ w.grownBy (w.setCell ⟨g, k, none⟩ (.int .i64 y)) (some g) := by
  subst hl
  have hr : w.ownsRow base 3 1 (.slice (some ⟨g, 0, none⟩) xs.length c) xs.length (xs.map (Value.int .i64)) := h
  have := World.ownsRow.stored hr k (.int .i64 y)
  refine ⟨?_, this.2⟩
  unfold Own
  rw [List.length_set, List.map_set]
  exact this.1
theorem set_map_take (f : Int → Int) (xs : List Int) (k : Nat) (hk : k < xs.length) : ((xs.map f).take k ++ xs.drop k).set k (f (xs.getD k 0)) = (xs.map f).take (k + 1) ++ xs.drop (k + 1) := by
  have hl : ((xs.map f).take k).length = k := by rw [List.length_take, List.length_map]; omega
  have e : xs.getD k 0 = xs[k] := by simp [hk]
  rw [List.set_append_right _ _ (by omega), hl, Nat.sub_self, List.drop_eq_getElem_cons hk, List.set_cons_zero, List.take_succ_eq_append_getElem (by simpa using hk), List.append_assoc, e]
  simp
theorem below_drewN {B : Nat} {a w : World} (h : Below B a w) (n : Nat) : Below B a (w.drewN n) := ⟨h.os, h.tape, h.output, h.size, h.block⟩
theorem below_grown {B : Nat} {a w w' : World} {row : Option Nat} (h : Below B a w) (hg : w.grownBy w' row) (hB : B ≤ w.heap.size) (hr : ∀ k, row = some k → B ≤ k) : Below B a w' := h.grown hg hB hr
/-- the cells and marks of what was there -/
theorem bcell {W w1 : World} (hb : Below W.heap.size W w1) : (∀ b o, b < W.heap.size → w1.cell? ⟨b, o, none⟩ = W.cell? ⟨b, o, none⟩) ∧ (∀ b o, b < W.heap.size → w1.frozen? ⟨b, o, none⟩ = W.frozen? ⟨b, o, none⟩) :=
  ⟨fun b o h => hb.cell (p := ⟨b, o, none⟩) h, fun b o h => hb.frozen (p := ⟨b, o, none⟩) h⟩
theorem Below.of_eq {w w' : World} (h : w = w') : Below w.heap.size w w' := by subst h; exact Below.refl _ _
/-- One call behind another. -/
theorem Below.then {w w1 w2 : World} (h : Below w.heap.size w w1) (k : Below w1.heap.size w1 w2) : Below w.heap.size w w2 := h.trans (k.mono h.size)

/-- A REGION THAT DRAWS ITS ORDER, its operations only read, its callees leave all that was there: walked once. -/
theorem wp_region_below {P : Program} {id : Nat} {Q : Exit → Act → World → Prop} {a : Act} {w : World} {l : List Oper} (hm : P.follows .mixedOrders = true) (hB : Region.lexB .any l.toArray = true)
    (h : wpQuiet P l.toArray (fun w' => ∃ p : Regrown, w' = grow (redrawn w p.d) p.os) (fun a' => ∀ w', Below w.heap.size w w' → Q .normal a' w') l a) : (Code.region id l.toArray true).wp P Q a w :=
  wp_region_quiet (C := fun w' => ∃ p : Regrown, w' = grow (redrawn w p.d) p.os) hm hB ⟨⟨w.drawn + 1, #[]⟩, by rw [grow_empty]; rfl⟩ (by
    have e : (fun a' => ∀ w', (∃ p : Regrown, w' = grow (redrawn w p.d) p.os) → Q .normal a' w') = (fun a' => ∀ w', Below w.heap.size w w' → Q .normal a' w') := by
      funext a'
      exact propext ⟨fun h w' hb => h w' (regrown_of_below hb), fun h w' ⟨p, hp⟩ => by subst hp; exact h _ (below_regrown w p.d p.os)⟩
    rw [e]
    simpa using h)

end Go.Proofs.YthoodjjjklbggaaGreatDoor

namespace Go.Proofs.YthoodjjjklbggaaGreatDoor
open Go.RowKit

def inB (n lo hi : Int) : Bool := decide (lo ≤ n) && decide (n ≤ hi)
theorem inB_true {n lo hi : Int} : inB n lo hi = true ↔ lo ≤ n ∧ n ≤ hi := by simp [inB]
theorem inB_false {n lo hi : Int} : inB n lo hi = false ↔ ¬ (lo ≤ n ∧ n ≤ hi) := by rw [← inB_true]; simp

set_option maxHeartbeats 400000 in
theorem within_any (n lo hi : Int) (w : World) : Calls Tryz.prog 58 #[.int .i64 n, .int .i64 lo, .int .i64 hi] w fun e w' => e = .returned (.bool (inB n lo hi)) ∧ w = w' := by
  by_cases h : lo ≤ n
  · have hd : decide (lo ≤ n) = true := by simpa using h
    go_enter Tryz.func58, Tryz.ntmps58
    go_wp2
    go_ret
    exact ⟨ret_bool (by simp [inB, h]), rfl⟩
  · have hd : decide (lo ≤ n) = false := by simpa using h
    go_enter Tryz.func58, Tryz.ntmps58
    go_wp2
    go_ret
    exact ⟨ret_bool (by simp [inB, hd]), rfl⟩

/-- slices.Index over ints -/
def indexI (xs : List Int) (x : Int) : Int := if x ∈ xs then (xs.idxOf x : Int) else -1
theorem indexI_hit {xs : List Int} {x : Int} {k : Nat} (hk : k < xs.length) (hx : x = xs[k]?.getD 0) (hn : x ∉ xs.take k) : indexI xs x = k := by
  have e : xs[k]?.getD 0 = xs[k] := by simp [hk]
  have hm : x ∈ xs := by rw [hx, e]; exact List.getElem_mem hk
  have hd : xs = xs.take k ++ xs.drop k := (List.take_append_drop k xs).symm
  have h2 : xs.drop k = x :: xs.drop (k + 1) := by rw [List.drop_eq_getElem_cons hk, hx, e]
  have hl : (xs.take k).length = k := by rw [List.length_take]; omega
  unfold indexI
  rw [if_pos hm]
  have : xs.idxOf x = k := by
    rw [hd, h2, List.idxOf_append, if_neg hn, List.idxOf_cons_self, hl, Nat.zero_add]
  rw [this]
theorem indexI_miss {xs : List Int} {x : Int} (hn : x ∉ xs) : indexI xs x = -1 := by unfold indexI; rw [if_neg hn]
theorem notMem_take_succ {xs : List Int} {x : Int} {k : Nat} (hk : k < xs.length) (hx : ¬ x = xs[k]?.getD 0) (hn : x ∉ xs.take k) : x ∉ xs.take (k + 1) := by
  rw [List.take_succ_eq_append_getElem hk]
  have e : xs[k]?.getD 0 = xs[k] := by simp [hk]
  rw [e] at hx
  rw [List.mem_append, List.mem_singleton]
  exact fun h => h.elim hn hx

set_option maxHeartbeats 400000 in
theorem index_any (v : Value) (xs : List Int) (x : Int) (w : World) (h : Rd w v xs) :
    Calls Tryz.prog 61 #[v, .int .i64 x] w fun e w' => e = .returned (.int .i64 (indexI xs x)) ∧ w = w' := by
  obtain ⟨A, c, rfl, hl1, hm1, hc1⟩ := h
  unfold maxLen at hm1
  generalize hn : xs.length = n at *
  have H1 := Lib.hid hn
  have H3 := Lib.hid hc1
  clear hn hc1
  go_enter Tryz.func61, Tryz.ntmps61
  go_wp2
  go_loop [8] (fun i => ∃ k : Nat, k ≤ n ∧ i = .int .i64 k ∧ Hid (x ∉ xs.take k)) (fun i => n - (intOf i).toNat)
  case atStart => exact ⟨0, Nat.zero_le _, rfl, by simp [Hid]⟩
  case round =>
    obtain ⟨k, hk, rfl, HN⟩ := hrel
    by_cases hlt : k < n
    · obtain ⟨b, off, rfl, hb, hx⟩ := H3.out (by omega)
      have hxk := hx k hlt
      clear hx
      go_wp2
      · have h : (x == xs[k]?.getD 0) = true := by assumption
        go_ret
        exact ⟨ret_int (indexI_hit (by have := H1.out; omega) (by simpa using h) HN.out).symm, rfl⟩
      · have h : (x == xs[k]?.getD 0) = false := by assumption
        go_round
        case rel => exact ⟨k + 1, by omega, by go_num, notMem_take_succ (by have := H1.out; omega) (by simpa using h) HN.out⟩
        case measure => simp [intOf]; omega
    · obtain rfl : k = n := by omega
      go_wp2
      go_ret
      exact ⟨ret_int (indexI_miss (by have := HN.out; rwa [List.take_of_length_le (by rw [H1.out]; exact Nat.le_refl _)] at this)).symm, rfl⟩

/-- slices.Contains over ints -/
def containsI (xs : List Int) (x : Int) : Bool := decide (x ∈ xs)
theorem containsI_index (xs : List Int) (x : Int) : decide (0 ≤ indexI xs x) = containsI xs x := by
  unfold containsI indexI
  by_cases h : x ∈ xs <;> simp [h]
set_option maxHeartbeats 400000 in
theorem contains_any (v : Value) (xs : List Int) (x : Int) (w : World) (h : Rd w v xs) :
    Calls Tryz.prog 28 #[v, .int .i64 x] w fun e w' => e = .returned (.bool (containsI xs x)) ∧ w = w' := by
  go_enter Tryz.func28, Tryz.ntmps28
  go_wp2_with (go_at_call 61; refine (index_any _ _ _ _ h).mono ?_; rintro e w1 ⟨rfl, rfl⟩)
  go_ret
  exact ⟨ret_bool (containsI_index xs x), rfl⟩
end Go.Proofs.YthoodjjjklbggaaGreatDoor

namespace Go.Proofs.YthoodjjjklbggaaGreatDoor
open Go.RowKit

/-- function number F with what it has captured is entered -/
def Enters (F : FuncId) : Prop := ∀ (args : Array Value) (W : World), (callFunc F args).run Tryz.prog W = .ok (.enter F args) W

def findI (p : Int → Bool) (xs : List Int) : Int := match xs.findIdx? p with | some k => (k : Int) | none => -1

theorem findI_any (p : Int → Bool) (xs : List Int) : decide (0 ≤ findI p xs) = xs.any p := by
  unfold findI
  rcases h : xs.findIdx? p with _ | k
  · rw [List.findIdx?_eq_none_iff] at h
    have : xs.any p = false := by simpa using h
    rw [this]; rfl
  · have hh := List.findIdx?_eq_some_iff_getElem.1 h
    obtain ⟨hl, hp, _⟩ := hh
    have : xs.any p = true := by rw [List.any_eq_true]; exact ⟨_, List.getElem_mem hl, hp⟩
    rw [this]; simp
theorem findI_miss {p : Int → Bool} {xs : List Int} (h : ∀ x ∈ xs, p x = false) : findI p xs = -1 := by
  unfold findI
  have : xs.findIdx? p = none := by rw [List.findIdx?_eq_none_iff]; simpa using h
  rw [this]
theorem findI_hit {p : Int → Bool} {xs : List Int} {k : Nat} (hk : k < xs.length) (hp : p (xs[k]?.getD 0) = true) (h : ∀ x ∈ xs.take k, p x = false) : findI p xs = k := by
  unfold findI
  have e : xs[k]?.getD 0 = xs[k] := by simp [hk]
  rw [e] at hp
  have : xs.findIdx? p = some k := by
    rw [List.findIdx?_eq_some_iff_getElem]
    refine ⟨hk, hp, fun j hj => ?_⟩
    have := h xs[j] (by
      rw [List.mem_iff_getElem?]
      exact ⟨j, by rw [List.getElem?_take, if_pos hj, List.getElem?_eq_getElem]⟩)
    simp [this]
  rw [this]
theorem findI_step {p : Int → Bool} {xs : List Int} {k : Nat} (hk : k < xs.length) (hp : p (xs[k]?.getD 0) = false) (h : ∀ x ∈ xs.take k, p x = false) : ∀ x ∈ xs.take (k + 1), p x = false := by
  rw [List.take_succ_eq_append_getElem hk]
  have e : xs[k]?.getD 0 = xs[k] := by simp [hk]
  rw [e] at hp
  intro x hx
  rw [List.mem_append, List.mem_singleton] at hx
  rcases hx with hx | rfl
  · exact h x hx
  · exact hp

set_option maxHeartbeats 1000000 in
theorem indexFunc_any (F : FuncId) (caps : Array Value) (hE : Enters F) (v : Value) (xs : List Int) (p : Int → Bool) (w : World) (h : Rd w v xs)
    (hf : ∀ x ∈ xs, ∀ w', Below w.heap.size w w' → Calls Tryz.prog F (#[.int .i64 x] ++ caps) w' fun e w'' => e = .returned (.bool (p x)) ∧ Below w'.heap.size w' w'') :
    Calls Tryz.prog 101 #[v, .func (.func F) #[] caps] w fun e w' => e = .returned (.int .i64 (findI p xs)) ∧ Below w.heap.size w w' := by
  obtain ⟨A, c, rfl, hl1, hm1, hc1⟩ := h
  unfold maxLen at hm1
  generalize hn : xs.length = n at *
  have H1 := Lib.hid hn
  have H3 := Lib.hid hc1
  have HF := Lib.hid hf
  clear hn hc1 hf
  have hE' : ∀ (args : Array Value) (W : World), (callFunc F args).run Tryz.prog W = .ok (.enter F args) W := hE
  go_enter Tryz.func101, Tryz.ntmps101
  go_wp2
  go_loopw [8] (fun i wr => ∃ k : Nat, k ≤ n ∧ i = .int .i64 k ∧ Below w.heap.size w wr ∧ Hid (∀ x ∈ xs.take k, p x = false)) (fun i _ => n - (intOf i).toNat)
  case atStart => exact ⟨0, Nat.zero_le _, rfl, Below.refl _ _, by simp [Hid]⟩
  case round =>
    obtain ⟨k, hk, rfl, hb, HN⟩ := hrel
    by_cases hlt : k < n
    · obtain ⟨b, off, rfl, hbb, hx⟩ := H3.out (by omega)
      have hxk : wr.cell? ⟨b, off + k, none⟩ = some (.int .i64 (xs.getD k 0)) := (hb.cell (by exact hbb)).trans (hx k hlt)
      have HB := Lib.hid hb
      clear hx hb
      have hmem : xs[k]?.getD 0 ∈ xs := by
        have hl : k < xs.length := by rw [H1.out]; exact hlt
        rw [List.getElem?_eq_getElem hl]; exact List.getElem_mem hl
      go_wp2_with fail
      refine (HF.out _ hmem wr HB.out).mono ?_
      rintro e w1 ⟨rfl, hb1⟩
      have hbb1 : Below w.heap.size w w1 := Below.then HB.out hb1
      have HB1 := Lib.hid hbb1
      clear hb1 hbb1 hxk hmem
      rcases hp : p (xs[k]?.getD 0) with _ | _
      · go_wp2_with fail
        go_roundw
        case rel => exact ⟨k + 1, by omega, by go_num, HB1.out, findI_step (by rw [H1.out]; exact hlt) hp HN.out⟩
        case measure => simp [intOf]; omega
      · go_wp2_with fail
        go_ret
        exact ⟨ret_int (findI_hit (by rw [H1.out]; exact hlt) hp HN.out).symm, HB1.out⟩
    · obtain rfl : k = n := by omega
      go_wp2
      go_ret
      exact ⟨ret_int (findI_miss (by have := HN.out; rwa [List.take_of_length_le (by rw [H1.out]; exact Nat.le_refl _)] at this)).symm, hb⟩
set_option maxHeartbeats 1000000 in
theorem containsFunc_any (F : FuncId) (caps : Array Value) (hE : Enters F) (v : Value) (xs : List Int) (p : Int → Bool) (w : World) (h : Rd w v xs)
    (hf : ∀ x ∈ xs, ∀ w', Below w.heap.size w w' → Calls Tryz.prog F (#[.int .i64 x] ++ caps) w' fun e w'' => e = .returned (.bool (p x)) ∧ Below w'.heap.size w' w'') :
    Calls Tryz.prog 78 #[v, .func (.func F) #[] caps] w fun e w' => e = .returned (.bool (xs.any p)) ∧ Below w.heap.size w w' := by
  have HF := Lib.hid hf
  clear hf
  go_enter Tryz.func78, Tryz.ntmps78
  go_wp2_with fail
  refine (indexFunc_any F caps hE v xs p w h HF.out).mono ?_
  rintro e w1 ⟨rfl, hb⟩
  have HB := Lib.hid hb
  clear hb
  go_wp2
  go_ret
  exact ⟨ret_bool (findI_any p xs), HB.out⟩
end Go.Proofs.YthoodjjjklbggaaGreatDoor

namespace Go.Proofs.YthoodjjjklbggaaGreatDoor
open Go.RowKit

set_option maxHeartbeats 400000 in
theorem allWithin1_any (x lo hi : Int) (a b : Addr) (w : World) (ha : w.cell? a = some (.int .i64 lo)) (hb : w.cell? b = some (.int .i64 hi)) :
    Calls Tryz.prog 79 #[.int .i64 x, .pointer (some a), .pointer (some b)] w fun e w' => e = .returned (.bool (!inB x lo hi)) ∧ w = w' := by
  go_enter Tryz.func79, Tryz.ntmps79
  go_wp2_with (go_at_call 58; refine (within_any _ _ _ _).mono ?_; rintro e w1 ⟨rfl, rfl⟩)
  go_ret
  exact ⟨rfl, rfl⟩
theorem enters_allWithin1 : Enters 79 := fun _ _ => by kernel_rfl

def allB (xs : List Int) (lo hi : Int) : Bool := xs.all fun x => inB x lo hi
theorem allB_any (xs : List Int) (lo hi : Int) : (!(xs.any fun x => !inB x lo hi)) = allB xs lo hi := by
  unfold allB
  rw [List.all_eq_not_any_not]
set_option maxHeartbeats 400000 in
theorem allWithin_any (v : Value) (xs : List Int) (lo hi : Int) (w : World) (h : Rd w v xs) :
    Calls Tryz.prog 59 #[v, .int .i64 lo, .int .i64 hi] w fun e w' => e = .returned (.bool (allB xs lo hi)) ∧ Below w.heap.size w w' := by
  have HR := Lib.hid h
  clear h
  go_enter Tryz.func59, Tryz.ntmps59
  go_wp2_with fail
  have hf : ∀ x ∈ xs, ∀ w', Below ((w.alloc (.cells #[.int .i64 lo] 3)).alloc (.cells #[.int .i64 hi] 3)).heap.size ((w.alloc (.cells #[.int .i64 lo] 3)).alloc (.cells #[.int .i64 hi] 3)) w' →
      Calls Tryz.prog 79 (#[.int .i64 x] ++ #[.pointer (some ⟨w.heap.size, 0, none⟩), .pointer (some ⟨w.heap.size + 1, 0, none⟩)]) w' fun e w'' => e = .returned (.bool (!inB x lo hi)) ∧ Below w'.heap.size w' w'' := by
    intro x _ w' hb
    refine (allWithin1_any x lo hi _ _ w' ?_ ?_).mono ?_
    · rw [hb.cell (by simp; try omega)]; simp
    · rw [hb.cell (by simp; try omega)]; simp
    · rintro e w1 ⟨rfl, rfl⟩
      exact ⟨rfl, Below.refl _ _⟩
  refine (containsFunc_any _ _ enters_allWithin1 v xs (fun x => !inB x lo hi) _ ((HR.out.alloc _).alloc _) hf).mono ?_
  rintro e w1 ⟨rfl, hb⟩
  have hb1 : Below w.heap.size w w1 := Below.then (((Below.refl _ _).alloc (Nat.le_refl _) _).alloc (by simp) _) (hb.mono (by simp))
  have HB := Lib.hid hb1
  clear hb hb1 hf
  go_wp2_with fail
  go_ret
  exact ⟨ret_bool (allB_any xs lo hi), HB.out⟩
end Go.Proofs.YthoodjjjklbggaaGreatDoor

namespace Go.Proofs.YthoodjjjklbggaaGreatDoor
open Go.RowKit Go.Sort

/-- a tour in a box -/
def TBox (W : World) (g : Nat) (s : Int) (sl : Value) : Prop := W.cell? ⟨g, 0, none⟩ = some (.int .i64 s) ∧ W.cell? ⟨g, 1, none⟩ = some sl
theorem TBox.below {W W' : World} {g : Nat} {s : Int} {sl : Value} (h : TBox W g s sl) (hb : Below W.heap.size W W') : TBox W' g s sl :=
  ⟨(hb.cell (World.block_lt_of_cell? W _ h.1)).trans h.1, (hb.cell (World.block_lt_of_cell? W _ h.2)).trans h.2⟩
theorem TBox.new (w : World) (s : Int) (sl : Value) (t : TypeId) : TBox (w.alloc (.cells #[.int .i64 s, sl] t)) w.heap.size s sl := ⟨by simp, by simp⟩
theorem below_alloc1 (w : World) (o : Obj) : Below w.heap.size w (w.alloc o) := (Below.refl _ _).alloc (Nat.le_refl _) _
/-- a contract that holds in every world above, as a region that draws meets it -/
theorem quiet_below {P : Program} {f : FuncId} {args : Array Value} {w : World} {v : Value}
    (h : ∀ W, Below w.heap.size w W → Calls P f args W fun e w' => e = .returned v ∧ Below W.heap.size W w') (d : Nat) (os : Array Obj) :
    Calls P f args (grow (redrawn w d) os) fun e w'' => e = .returned v ∧ ∃ p : Regrown, w'' = grow (redrawn w p.d) p.os := Calls.regrown_of (h _ (below_regrown w d os))
theorem of_same {P : Program} {f : FuncId} {args : Array Value} {w : World} {v : Value} (h : Calls P f args w fun e w' => e = .returned v ∧ w = w') : Calls P f args w fun e w' => e = .returned v ∧ Below w.heap.size w w' :=
  h.mono fun _ _ ⟨h1, h2⟩ => ⟨h1, by subst h2; exact Below.refl _ _⟩
theorem of_drew {P : Program} {f : FuncId} {args : Array Value} {w : World} {v : Value} (h : Calls P f args w fun e w' => e = .returned v ∧ ∃ q, w' = w.drewN q) : Calls P f args w fun e w' => e = .returned v ∧ Below w.heap.size w w' :=
  h.mono fun _ _ ⟨h1, q, h2⟩ => ⟨h1, by subst h2; exact below_drewN (Below.refl _ _) q⟩

/-- a result in a box -/
def Box4 (W : World) (g : Nat) (a b c d : Int) : Prop := W.cell? ⟨g, 0, none⟩ = some (.int .i64 a) ∧ W.cell? ⟨g, 1, none⟩ = some (.int .i64 b) ∧ W.cell? ⟨g, 2, none⟩ = some (.int .i64 c) ∧ W.cell? ⟨g, 3, none⟩ = some (.int .i64 d)
theorem Box4.below {W W' : World} {g : Nat} {a b c d : Int} (h : Box4 W g a b c d) (hb : Below W.heap.size W W') : Box4 W' g a b c d := by
  obtain ⟨h0, h1, h2, h3⟩ := h
  exact ⟨(hb.cell (World.block_lt_of_cell? W _ h0)).trans h0, (hb.cell (World.block_lt_of_cell? W _ h1)).trans h1, (hb.cell (World.block_lt_of_cell? W _ h2)).trans h2, (hb.cell (World.block_lt_of_cell? W _ h3)).trans h3⟩

theorem Box4.new (w : World) (a b c d : Int) (t : TypeId) : Box4 (w.alloc (.cells #[.int .i64 a, .int .i64 b, .int .i64 c, .int .i64 d] t)) w.heap.size a b c d := ⟨by simp, by simp, by simp, by simp⟩
theorem TBox.kept {W W' : World} {g : Nat} {s : Int} {sl : Value} {row : Option Nat} (h : TBox W g s sl) (hg : W.grownBy W' row) (hne : some g ≠ row) : TBox W' g s sl :=
  ⟨(World.cell?_of_block (hg.block g (World.block_lt_of_cell? W _ h.1) hne)).trans h.1, (World.cell?_of_block (hg.block g (World.block_lt_of_cell? W _ h.2) hne)).trans h.2⟩
theorem nb_ne {a : Option Nat} {g : Nat} (h : a = none ∨ a ≠ some g) : some g ≠ a := by
  rcases h with h | h
  · subst h; simp
  · exact Ne.symm h
theorem own_box_new {w : World} {base : Nat} {v : Value} {xs : List Int} (h : Own w base v xs) : v.ownBlock = none ∨ v.ownBlock ≠ some w.heap.size := by
  rcases e : v.ownBlock with _ | k
  · exact .inl rfl
  · right
    have := (h.lt k e).2
    intro h2
    injection h2
    omega
theorem own_box_old {w w' : World} {g : Nat} {s : Int} {sl v : Value} {xs : List Int} (t : TBox w' g s sl) (h : Own w w'.heap.size v xs) : v.ownBlock = none ∨ v.ownBlock ≠ some g := by
  rcases e : v.ownBlock with _ | k
  · exact .inl rfl
  · right
    have h1 := (h.lt k e).1
    have h3 : g < w'.heap.size := World.block_lt_of_cell? w' _ t.1
    intro h2
    injection h2
    omega
theorem apart_of {v v' : Value} {B : Nat} (h : ∀ k, v.ownBlock = some k → k < B) (h' : ∀ k, v'.ownBlock = some k → B ≤ k) : v.ownBlock = none ∨ v.ownBlock ≠ v'.ownBlock := by
  rcases e : v.ownBlock with _ | g
  · exact .inl rfl
  · right
    intro e'
    have h1 := h g e
    have h2 := h' g e'.symm
    omega
theorem box_new_of {v : Value} {B : Nat} (h : ∀ k, v.ownBlock = some k → k < B) : v.ownBlock = none ∨ v.ownBlock ≠ some B := by
  rcases e : v.ownBlock with _ | k
  · exact .inl rfl
  · right
    have := h k e
    intro h2
    injection h2
    omega
theorem box_old_of {w' : World} {g : Nat} {s : Int} {sl v : Value} (t : TBox w' g s sl) (h : ∀ k, v.ownBlock = some k → w'.heap.size ≤ k) : v.ownBlock = none ∨ v.ownBlock ≠ some g := by
  rcases e : v.ownBlock with _ | k
  · exact .inl rfl
  · right
    have h1 := h k e
    have h3 : g < w'.heap.size := World.block_lt_of_cell? w' _ t.1
    intro h2
    injection h2
    omega
end Go.Proofs.YthoodjjjklbggaaGreatDoor

namespace Go.Proofs.YthoodjjjklbggaaGreatDoor
open Go.RowKit

theorem ofInt_i64 (a : Nat) (ha : a < 9223372036854775808) : (BitVec.ofInt 64 (a : Int)).toNat = a := by
  rw [BitVec.ofInt_natCast, BitVec.toNat_ofNat]; exact Nat.mod_eq_of_lt (by omega)
theorem i64_and_nat (a b : Nat) (ha : a < 9223372036854775808) (hb : b < 9223372036854775808) : bits .and .i64 (a : Int) (b : Int) = ((a &&& b : Nat) : Int) := by
  have hx : a &&& b < 2 ^ 63 := Nat.and_lt_two_pow _ (by omega)
  show IntKind.i64.wrap ((BitVec.ofInt 64 (a : Int) &&& BitVec.ofInt 64 (b : Int)).toNat : Int) = _
  rw [BitVec.toNat_and, ofInt_i64 a ha, ofInt_i64 b hb, IntKind.wrap_i64]
  omega
theorem i64_or_nat (a b : Nat) (ha : a < 9223372036854775808) (hb : b < 9223372036854775808) : bits .or .i64 (a : Int) (b : Int) = ((a ||| b : Nat) : Int) := by
  have hx : a ||| b < 2 ^ 63 := Nat.or_lt_two_pow (by omega) (by omega)
  show IntKind.i64.wrap ((BitVec.ofInt 64 (a : Int) ||| BitVec.ofInt 64 (b : Int)).toNat : Int) = _
  rw [BitVec.toNat_or, ofInt_i64 a ha, ofInt_i64 b hb, IntKind.wrap_i64]
  omega
theorem i64_xor_nat (a b : Nat) (ha : a < 9223372036854775808) (hb : b < 9223372036854775808) : bits .xor .i64 (a : Int) (b : Int) = ((a ^^^ b : Nat) : Int) := by
  have hx : a ^^^ b < 2 ^ 63 := Nat.xor_lt_two_pow (by omega) (by omega)
  show IntKind.i64.wrap ((BitVec.ofInt 64 (a : Int) ^^^ BitVec.ofInt 64 (b : Int)).toNat : Int) = _
  rw [BitVec.toNat_xor, ofInt_i64 a ha, ofInt_i64 b hb, IntKind.wrap_i64]
  omega
/-- what is in a and not in b -/
def less (a b : Nat) : Nat := a ^^^ (a &&& b)
theorem testBit_less (a b i : Nat) : (less a b).testBit i = (a.testBit i && !b.testBit i) := by
  unfold less; rw [Nat.testBit_xor, Nat.testBit_and]; cases a.testBit i <;> cases b.testBit i <;> rfl
theorem i64_andNot_nat (a b : Nat) (ha : a < 9223372036854775808) (hb : b < 9223372036854775808) : bits .andNot .i64 (a : Int) (b : Int) = ((less a b : Nat) : Int) := by
  have e : (BitVec.ofInt 64 (a : Int) &&& ~~~BitVec.ofInt 64 (b : Int)).toNat = less a b := by
    apply Nat.eq_of_testBit_eq
    intro i
    rw [testBit_less, BitVec.toNat_and, Nat.testBit_and, ofInt_i64 a ha]
    rcases Nat.lt_or_ge i 64 with hi | hi
    · congr 1
      rw [BitVec.testBit_toNat, BitVec.getLsbD_not, ← BitVec.testBit_toNat, ofInt_i64 b hb]
      simp [hi]
    · rw [Nat.testBit_lt_two_pow (Nat.lt_of_lt_of_le ha (Nat.le_trans (by decide : 9223372036854775808 ≤ 2 ^ 64) (Nat.pow_le_pow_right (by decide) hi)))]
      simp
  have hx : less a b < 2 ^ 63 := Nat.xor_lt_two_pow (by omega) (Nat.and_lt_two_pow _ (by omega))
  show IntKind.i64.wrap ((BitVec.ofInt 64 (a : Int) &&& ~~~BitVec.ofInt 64 (b : Int)).toNat : Int) = _
  rw [e, IntKind.wrap_i64]
  omega
theorem i64_and_one (x : Int) : bits .and .i64 x 1 = x % 2 := by
  have h : (BitVec.ofInt 64 x &&& BitVec.ofInt 64 1).toNat = (x % 2).toNat := by
    rw [BitVec.toNat_and, show (BitVec.ofInt 64 1).toNat = 1 from rfl, Nat.and_one_is_mod, BitVec.toNat_ofInt]
    omega
  show IntKind.i64.wrap ((BitVec.ofInt 64 x &&& BitVec.ofInt 64 1).toNat : Int) = _
  rw [h, IntKind.wrap_i64]
  omega
/-- '1 << k' for a small k -/
theorem i64_shl_one (k : Nat) (hk : k ≤ 62) : IntKind.i64.wrap (1 * 2 ^ k) = ((2 ^ k : Nat) : Int) := by
  have h1 : 2 ^ k ≤ 2 ^ 62 := Nat.pow_le_pow_right (by decide) hk
  have h2 : ((2 : Int) ^ k) = ((2 ^ k : Nat) : Int) := by simp
  rw [Int.one_mul, h2, IntKind.wrap_i64]
  rw [show (2 : Nat) ^ 62 = 4611686018427387904 from by decide] at h1
  generalize 2 ^ k = p at *
  omega
theorem testBit_iff (n k : Nat) : n.testBit k = decide ((n : Int) / 2 ^ k % 2 = 1) := by
  rw [Nat.testBit_eq_decide_div_mod_eq]
  have h : ((n : Int) / 2 ^ k % 2) = ((n / 2 ^ k % 2 : Nat) : Int) := by simp
  rw [h]
  congr 1
  apply propext
  omega
/-- 'S>>d&1 == 1' as the walk has it -/
theorem bit_test (S d : Nat) : (bits BinOp.and IntKind.i64 ((S : Int) / 2 ^ d) 1 == 1) = S.testBit d := by
  rw [i64_and_one, testBit_iff, Bool.eq_iff_iff]
  simp
theorem wrap64_nat (n : Nat) (h : n < 9223372036854775808) : wrap64 (n : Int) = n := IntWalk.wrap64_in _ (by omega)
/-- 'S + 1<<d' -/
theorem add_shl (S d : Nat) (hS : S < 4611686018427387904) (hd : d ≤ 61) : wrap64 ((S : Int) + wrap64 (2 ^ d)) = ((S + 2 ^ d : Nat) : Int) := by
  have h1 : 2 ^ d ≤ 2 ^ 61 := Nat.pow_le_pow_right (by decide) hd
  rw [show (2 : Nat) ^ 61 = 2305843009213693952 from by decide] at h1
  have h2 : ((2 : Int) ^ d) = ((2 ^ d : Nat) : Int) := by simp
  rw [h2]
  generalize 2 ^ d = p at *
  rw [wrap64_nat _ (by omega), ← Int.natCast_add, wrap64_nat _ (by omega)]
/-- a new greatest element -/
theorem testBit_add_top (S d m : Nat) (h : S < 2 ^ d) : (S + 2 ^ d).testBit m = (S.testBit m || decide (d = m)) := by
  have := Nat.two_pow_add_eq_or_of_lt h 1
  rw [Nat.mul_one] at this
  rw [Nat.add_comm, this, Nat.testBit_or, Nat.testBit_two_pow, Bool.or_comm]
theorem lt_of_testBit {S d : Nat} (h : ∀ m, d ≤ m → S.testBit m = false) : S < 2 ^ d := Nat.lt_pow_two_of_testBit S fun m hm => h m hm
end Go.Proofs.YthoodjjjklbggaaGreatDoor

namespace Go.Proofs.YthoodjjjklbggaaGreatDoor
open Go.RowKit Go.Sort

/-- digit number b of x -/
def bitI (x : Int) (b : Nat) : Bool := decide (x / 2 ^ b % 2 = 1)
theorem bit_walk (x : Int) (b : Nat) : (bits BinOp.and IntKind.i64 (x / 2 ^ b) 1 == 1) = bitI x b := by
  rw [i64_and_one, bitI, Bool.eq_iff_iff]; simp
set_option maxHeartbeats 400000 in
theorem has_any (s : Int) (sl : Value) (a : Int) (w : World) (hs : -1000 ≤ s ∧ s ≤ 1000) :
    Calls Tryz.prog 27 #[.agg #[.int .i64 s, sl], .int .i64 a] w fun e w' => e = .returned (.bool (inB a 0 (s - 1))) ∧ Below w.heap.size w w' := by
  go_enter Tryz.func27, Tryz.ntmps27
  go_wp2_with (go_at_call 58; refine (within_any _ _ _ _).mono ?_; rintro e w1 ⟨rfl, rfl⟩)
  go_ret
  exact ⟨rfl, below_alloc1 _ _⟩
set_option maxHeartbeats 400000 in
theorem beats_any (s : Int) (sl : Value) (xs : List Int) (a b : Int) (w : World) (h : Rd w sl xs) (ha : 0 ≤ a) (ha2 : a < xs.length) (hb : 0 ≤ b) (hb2 : b ≤ 63) :
    Calls Tryz.prog 60 #[.agg #[.int .i64 s, sl], .int .i64 a, .int .i64 b] w fun e w' => e = .returned (.bool (bitI (xs.getD a.toNat 0) b.toNat)) ∧ Below w.heap.size w w' := by
  obtain ⟨A, c, rfl, hl1, hm1, hc1⟩ := h
  unfold maxLen at hm1
  obtain ⟨a, rfl⟩ := Int.eq_ofNat_of_zero_le ha
  obtain ⟨b, rfl⟩ := Int.eq_ofNat_of_zero_le hb
  obtain ⟨g, off, rfl, hg, hx⟩ := hc1 (by omega)
  have hxa := hx a (by omega)
  have hxa' : (w.alloc (.cells #[.int .i64 s, .slice (some ⟨g, off, none⟩) xs.length c] 25)).cell? ⟨g, off + a, none⟩ = some (.int .i64 (xs.getD a 0)) := by
    rw [World.cell?_alloc_lt _ _ _ (by exact hg)]; exact hxa
  generalize hn : xs.length = n at *
  have HN := Lib.hid hn
  clear hx hxa hn
  go_enter Tryz.func60, Tryz.ntmps60
  go_wp2
  go_ret
  refine ⟨ret_bool ?_, below_alloc1 _ _⟩
  rw [bit_walk]
  simp
set_option maxHeartbeats 400000 in
theorem l02Beats_any (s : Int) (sl : Value) (xs : List Int) (a b : Int) (w : World) (h : Rd w sl xs) (ha : 0 ≤ a) (ha2 : a < xs.length) (hb : 0 ≤ b) (hb2 : b ≤ 63) :
    Calls Tryz.prog 68 #[.agg #[.int .i64 s, sl], .int .i64 a, .int .i64 b] w fun e w' => e = .returned (.bool (bitI (xs.getD a.toNat 0) b.toNat)) ∧ Below w.heap.size w w' := by
  obtain ⟨A, c, rfl, hl1, hm1, hc1⟩ := h
  unfold maxLen at hm1
  obtain ⟨a, rfl⟩ := Int.eq_ofNat_of_zero_le ha
  obtain ⟨b, rfl⟩ := Int.eq_ofNat_of_zero_le hb
  obtain ⟨g, off, rfl, hg, hx⟩ := hc1 (by omega)
  have hxa := hx a (by omega)
  have hxa' : (w.alloc (.cells #[.int .i64 s, .slice (some ⟨g, off, none⟩) xs.length c] 25)).cell? ⟨g, off + a, none⟩ = some (.int .i64 (xs.getD a 0)) := by
    rw [World.cell?_alloc_lt _ _ _ (by exact hg)]; exact hxa
  generalize hn : xs.length = n at *
  have HN := Lib.hid hn
  clear hx hxa hn
  go_enter Tryz.func68, Tryz.ntmps68
  go_wp2
  go_ret
  refine ⟨ret_bool ?_, below_alloc1 _ _⟩
  rw [bit_walk]
  simp
end Go.Proofs.YthoodjjjklbggaaGreatDoor

namespace Go.Proofs.YthoodjjjklbggaaGreatDoor
open Go.RowKit Go.Sort

/-- what is asked of player a: no win over itself; against each b before it just one of the two wins -/
def okAt (xs : List Int) (a : Nat) : Prop := bitI (xs.getD a 0) a = false ∧ ∀ b, b < a → bitI (xs.getD a 0) b ≠ bitI (xs.getD b 0) a
def tourP (s : Int) (xs : List Int) : Prop := (1 ≤ s ∧ s ≤ 8) ∧ (xs.length : Int) = s ∧ (∀ x ∈ xs, 0 ≤ x ∧ x ≤ 2 ^ s.toNat - 1) ∧ ∀ a, a < xs.length → okAt xs a
noncomputable def tourB (s : Int) (xs : List Int) : Bool := @decide (tourP s xs) (Classical.propDecidable _)
theorem tourB_true {s : Int} {xs : List Int} : tourB s xs = true ↔ tourP s xs := by unfold tourB; simp
theorem tourB_false {s : Int} {xs : List Int} : tourB s xs = false ↔ ¬ tourP s xs := by rw [← tourB_true]; simp

theorem shl_i64 (s : Int) (h : 0 ≤ s ∧ s ≤ 61) : IntKind.i64.wrap (1 * 2 ^ s.toNat) = 2 ^ s.toNat := by
  rw [i64_shl_one _ (by omega)]; simp
theorem pow_small (s : Int) (h : 0 ≤ s ∧ s ≤ 8) : (1 : Int) ≤ 2 ^ s.toNat ∧ (2 : Int) ^ s.toNat ≤ 256 := by
  have h1 : 2 ^ s.toNat ≤ 2 ^ 8 := Nat.pow_le_pow_right (by decide) (by omega)
  have h2 : 0 < 2 ^ s.toNat := Nat.two_pow_pos _
  have h3 : ((2 : Int) ^ s.toNat) = ((2 ^ s.toNat : Nat) : Int) := by simp
  rw [h3]
  rw [show (2 : Nat) ^ 8 = 256 from rfl] at h1
  omega

theorem ok_hi (n : Nat) (h : n ≤ 8) : wrap64 (wrap64 (2 ^ n) - 1) = 2 ^ n - 1 := by
  have h1 : 2 ^ n ≤ 2 ^ 8 := Nat.pow_le_pow_right (by decide) h
  have h3 : ((2 : Int) ^ n) = ((2 ^ n : Nat) : Int) := by simp
  rw [h3]
  rw [show (2 : Nat) ^ 8 = 256 from rfl] at h1
  have h2 : 0 < 2 ^ n := Nat.two_pow_pos _
  generalize 2 ^ n = p at *
  rw [IntWalk.wrap64_in (p : Int) (by omega), IntWalk.wrap64_in _ (by omega)]
set_option maxHeartbeats 2000000 in
theorem implTourOk (s : Int) (sl : Value) (xs : List Int) (w : World) (h : Rd w sl xs) :
    Calls Tryz.prog 23 #[.agg #[.int .i64 s, sl]] w fun e w' => e = .returned (.bool (tourB s xs)) ∧ Below w.heap.size w w' := by
  have HR := Lib.hid h
  obtain ⟨A, c, rfl, hl1, hm1, hc1⟩ := h
  clear hc1
  unfold maxLen at hm1
  rcases hS : inB s 1 8 with _ | _
  · go_enter Tryz.func23, Tryz.ntmps23
    go_wp2_with fail
    have b0 := below_alloc1 w (.cells #[.int .i64 s, .slice A xs.length c] 25)
    have x0 := TBox.new w s (.slice A xs.length c) 25
    generalize w.alloc (.cells #[.int .i64 s, .slice A xs.length c] 25) = W at *
    have k1 := quiet_below (w := W) (fun W _ => of_same (within_any s 1 8 W))
    have y0 := cell_regrown x0.1
    have y1 := cell_regrown x0.2
    have HB := Lib.hid b0
    clear x0 b0
    refine wp_region_below (by kernel_rfl) (by kernel_rfl) ?_
    repeat (go_big_quiet_step (first | (with_reducible exact k1 _ _)))
    refine wpQuiet_nil ?_
    intro w1 hb1
    have HB1 := Lib.hid (Below.then HB.out hb1)
    clear hb1 k1 y0 y1 HB
    go_wp2
    go_ret
    refine ⟨ret_bool (tourB_false.2 fun hp => ?_).symm, HB1.out⟩
    have := inB_false.1 hS
    exact this hp.1
  · have hs := inB_true.1 hS
    generalize hn : xs.length = n at *
    have HN := Lib.hid hn
    clear hn
    by_cases hl : (n : Int) = s
    · subst hl
      have hne : ((n : Int) != (n : Int)) = false := by simp
      have HV := Lib.hid (ok_hi n (by omega))
      rcases hA : allB xs 0 (wrap64 (wrap64 (2 ^ n) - 1)) with _ | _
      all_goals
        go_enter Tryz.func23, Tryz.ntmps23
        go_wp2_with fail
        have b0 := below_alloc1 w (.cells #[.int .i64 n, .slice A n c] 25)
        have x0 := TBox.new w n (.slice A n c) 25
        generalize w.alloc (.cells #[.int .i64 n, .slice A n c] 25) = W at *
        have k1 := quiet_below (w := W) (fun W _ => of_same (within_any n 1 8 W))
        rw [hS] at k1
        have k2 := quiet_below (w := W) (fun W' hb => allWithin_any (.slice A n c) xs 0 (wrap64 (wrap64 (2 ^ n) - 1)) W' ((HR.out.below b0).below hb))
        rw [hA] at k2
        have y0 := cell_regrown x0.1
        have y1 := cell_regrown x0.2
        have HB := Lib.hid b0
        have HX := Lib.hid x0
        clear x0 b0
        refine wp_region_below (by kernel_rfl) (by kernel_rfl) ?_
        repeat (go_big_quiet_step (first | (with_reducible exact k1 _ _) | (with_reducible exact k2 _ _)))
        refine wpQuiet_nil ?_
        intro w1 hb1
        have HX1 := Lib.hid (HX.out.below hb1)
        have HB1 := Lib.hid (Below.then HB.out hb1)
        clear hb1 k1 y0 y1 HB k2 HX
        have y0 := HX1.out.1
        have y1 := HX1.out.2
      · go_wp2
        go_ret
        refine ⟨ret_bool (tourB_false.2 fun hp => ?_).symm, HB1.out⟩
        rw [HV.out] at hA
        have := hp.2.2.1
        simp [allB] at hA
        obtain ⟨x, hx, hb⟩ := hA
        exact inB_false.1 hb (this x hx)
      · go_wp2
        have HA : Hid (∀ x ∈ xs, 0 ≤ x ∧ x ≤ 2 ^ n - 1) := by
          rw [HV.out] at hA
          simp [allB] at hA
          exact fun x hx => inB_true.1 (hA x hx)
        clear hA
        go_loopw [29] (fun i wr => ∃ a : Nat, a ≤ n ∧ i = .int .i64 a ∧ TBox wr w.heap.size n (.slice A n c) ∧ Below w.heap.size w wr ∧ Hid (∀ a', a' < a → okAt xs a')) (fun i _ => n - (intOf i).toNat)
        case atStart => exact ⟨0, Nat.zero_le _, rfl, HX1.out, HB1.out, fun a h => absurd h (by omega)⟩
        case round =>
          obtain ⟨a, ha, rfl, hx, hb, HP⟩ := hrel
          have HX := Lib.hid hx
          have HB := Lib.hid hb
          clear hx hb y0 y1 HX1 HB1
          by_cases hlt : a < n
          · go_wp2
            obtain ⟨wo, rfl⟩ : ∃ wo : World, wo = wr := ⟨_, rfl⟩
            go_loopw [33] (fun i wr => ∃ b : Nat, b ≤ a ∧ i = .int .i64 b ∧ TBox wr w.heap.size n (.slice A n c) ∧ Below w.heap.size w wr ∧ Hid (∀ b', b' < b → bitI (xs.getD a 0) b' ≠ bitI (xs.getD b' 0) a)) (fun i _ => a - (intOf i).toNat)
            case atStart => exact ⟨0, Nat.zero_le _, rfl, HX.out, HB.out, fun b h => absurd h (by omega)⟩
            case round =>
              obtain ⟨b, hb, rfl, hx, hbb, HQ⟩ := hrel
              have HX' := Lib.hid hx
              have HB' := Lib.hid hbb
              clear hx hbb HX HB
              by_cases hltb : b < a
              · go_wp2
                have y0 := cell_regrown HX'.out.1
                have y1 := cell_regrown HX'.out.2
                have kab : ∀ d os, Calls Tryz.prog 60 #[.agg #[.int .i64 n, .slice A n c], .int .i64 a, .int .i64 b] (grow (redrawn wr d) os) fun e w'' => e = .returned (.bool (bitI (xs.getD a 0) b)) ∧ ∃ p : Regrown, w'' = grow (redrawn wr p.d) p.os :=
                  quiet_below (fun W hW => beats_any n _ xs a b W ((HR.out.below HB'.out).below hW) (by omega) (by rw [HN.out]; omega) (by omega) (by omega))
                have kba : ∀ d os, Calls Tryz.prog 60 #[.agg #[.int .i64 n, .slice A n c], .int .i64 b, .int .i64 a] (grow (redrawn wr d) os) fun e w'' => e = .returned (.bool (bitI (xs.getD b 0) a)) ∧ ∃ p : Regrown, w'' = grow (redrawn wr p.d) p.os :=
                  quiet_below (fun W hW => beats_any n _ xs b a W ((HR.out.below HB'.out).below hW) (by omega) (by rw [HN.out]; omega) (by omega) (by omega))
                refine wp_region_below (by kernel_rfl) (by kernel_rfl) ?_
                repeat (go_big_quiet_step (first | (with_reducible exact kab _ _) | (with_reducible exact kba _ _)))
                refine wpQuiet_nil ?_
                intro w2 hb2
                have HX2 := Lib.hid (HX'.out.below hb2)
                have HB2 := Lib.hid (Below.then HB'.out hb2)
                clear hb2 y0 y1 kab kba HX' HB'
                go_wp2
                · have hq : (bitI (xs[a]?.getD 0) b == bitI (xs[b]?.getD 0) a) = true := by assumption
                  go_ret
                  refine ⟨ret_bool (tourB_false.2 fun hp => ?_).symm, HB2.out⟩
                  have := (hp.2.2.2 a (by rw [HN.out]; exact hlt)).2 b hltb
                  simp at hq this
                  exact this hq
                · have hq : (bitI (xs[a]?.getD 0) b == bitI (xs[b]?.getD 0) a) = false := by assumption
                  go_roundw
                  case rel =>
                    refine ⟨b + 1, by omega, by go_num, HX2.out, HB2.out, fun b' hb' => ?_⟩
                    by_cases h : b' < b
                    · exact HQ.out b' h
                    · obtain rfl : b' = b := by omega
                      simpa using hq
                  case measure => simp [intOf]; omega
              · have hge : ¬ ((b : Int) < (a : Int)) := by omega
                have y0 := HX'.out.1
                have y1 := HX'.out.2
                have kaa : ∀ W, Below wr.heap.size wr W → Calls Tryz.prog 60 #[.agg #[.int .i64 n, .slice A n c], .int .i64 a, .int .i64 a] W fun e w'' => e = .returned (.bool (bitI (xs.getD a 0) a)) ∧ Below W.heap.size W w'' :=
                  fun W hW => beats_any n _ xs a a W ((HR.out.below HB'.out).below hW) (by omega) (by rw [HN.out]; omega) (by omega) (by omega)
                have KAA := Lib.hid (kaa _ (Below.refl _ _))
                clear kaa
                go_wp2_with (go_at_call 60; refine KAA.out.mono ?_; rintro e w2 ⟨rfl, hb2⟩; have HX2 := Lib.hid (HX'.out.below hb2); have HB2 := Lib.hid (Below.then HB'.out hb2); clear hb2)
                · have hq : bitI (xs[a]?.getD 0) a = true := by assumption
                  go_ret
                  refine ⟨ret_bool (tourB_false.2 fun hp => ?_).symm, HB2.out⟩
                  have := (hp.2.2.2 a (by rw [HN.out]; exact hlt)).1
                  simp [hq] at this
                · have hq : bitI (xs[a]?.getD 0) a = false := by assumption
                  go_roundw
                  case rel =>
                    refine ⟨a + 1, by omega, by go_num, HX2.out, HB2.out, fun a' ha' => ?_⟩
                    by_cases h : a' < a
                    · exact HP.out a' h
                    · obtain rfl : a' = a := by omega
                      exact ⟨by simpa using hq, fun b' hb' => HQ.out b' (by omega)⟩
                  case measure => simp [intOf]; omega
          · obtain rfl : a = n := by omega
            go_wp2
            go_ret
            refine ⟨ret_bool (tourB_true.2 ⟨hs, by rw [HN.out], HA.out, by rw [HN.out]; exact HP.out⟩).symm, HB.out⟩
    · have hne : ((n : Int) != s) = true := by simpa using hl
      have HL := Lib.hid hl
      clear hl
      go_enter Tryz.func23, Tryz.ntmps23
      go_wp2_with fail
      have b0 := below_alloc1 w (.cells #[.int .i64 s, .slice A n c] 25)
      have x0 := TBox.new w s (.slice A n c) 25
      generalize w.alloc (.cells #[.int .i64 s, .slice A n c] 25) = W at *
      have k1 := quiet_below (w := W) (fun W _ => of_same (within_any s 1 8 W))
      have y0 := cell_regrown x0.1
      have y1 := cell_regrown x0.2
      have HB := Lib.hid b0
      clear x0 b0
      refine wp_region_below (by kernel_rfl) (by kernel_rfl) ?_
      repeat (go_big_quiet_step (first | (with_reducible exact k1 _ _)))
      refine wpQuiet_nil ?_
      intro w1 hb1
      have HB1 := Lib.hid (Below.then HB.out hb1)
      clear hb1 k1 y0 y1 HB
      go_wp2
      go_ret
      refine ⟨ret_bool (tourB_false.2 fun hp => ?_).symm, HB1.out⟩
      exact HL.out (by rw [← hp.2.1, HN.out])
end Go.Proofs.YthoodjjjklbggaaGreatDoor

namespace Go.Proofs.YthoodjjjklbggaaGreatDoor
open Go.RowKit Go.Sort

theorem bit_eq_walk (x y : Int) (b a : Nat) : (bits BinOp.and IntKind.i64 (x / 2 ^ b) 1 == bits BinOp.and IntKind.i64 (y / 2 ^ a) 1) = (bitI x b == bitI y a) := by
  rw [i64_and_one, i64_and_one, bitI, bitI, Bool.eq_iff_iff]
  simp only [beq_iff_eq, decide_eq_decide]
  omega

end Go.Proofs.YthoodjjjklbggaaGreatDoor

