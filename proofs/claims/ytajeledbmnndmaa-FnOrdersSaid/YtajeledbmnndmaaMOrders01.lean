/- Texts put together: Base, Sl, Hof, AllW, Box, Bits, Tour, TourOk, TourOkS, Sets, Score, Beat, ScoreOf, App, Mem, King, KStep, Tail. -/
import Derived.Test.YtajeledbmnndmaaRows
import Derived.WalkKit
import Derived.WalkSpells
import Derived.WalkLawsBesides
import Derived.Deep.QuietTactic
import Derived.BigQuiet
import Derived.Lib.Hide
import Derived.Lib.QuietBelow
import Derived.StillTailTactics
import Derived.Handy
import Derived.Deep.LoopGhost
import Derived.Laws.BitsAllLaws
import Derived.Laws.BitsLemmas
import Derived.StillTail
import Derived.Deep.Quiet
namespace Go.Proofs.Ytajeledbmnndmaa
open Go.RowKit Go.Sort

theorem ret_int {k : IntKind} {a b : Int} (h : a = b) : Ending.returned (.int k a) = .returned (.int k b) := by rw [h]
theorem ret_bool {a b : Bool} (h : a = b) : Ending.returned (.bool a) = .returned (.bool b) := by rw [h]

theorem i64_info : (Try.prog.info? 3).map (fun i => (i.zero, i.size, i.bytes)) = some (some (.int .i64 0), 1, 8) := by kernel_rfl

/-- The numbers of the list are int64. -/
def I64s (xs : List Int) : Prop := ∀ x ∈ xs, -9223372036854775808 ≤ x ∧ x ≤ 9223372036854775807
theorem I64s.getD {xs : List Int} (h : I64s xs) (k : Nat) : -9223372036854775808 ≤ xs.getD k 0 ∧ xs.getD k 0 ≤ 9223372036854775807 := by
  rw [List.getD_eq_getElem?_getD]
  rcases hk : xs[k]? with _ | x
  · simp
  · exact h x (List.mem_of_getElem? hk)
theorem I64s.getD' {xs : List Int} (h : I64s xs) (k : Nat) : -9223372036854775808 ≤ xs[k]?.getD 0 ∧ xs[k]?.getD 0 ≤ 9223372036854775807 := by
  rw [← List.getD_eq_getElem?_getD]; exact h.getD k

/-- THE SLICE VALUE v READS AS THE LIST xs (of ints), in blocks that are there. -/
def Rd (w : World) (v : Value) (xs : List Int) : Prop :=
  ∃ (A : Option Addr) (c : Nat), v = .slice A xs.length c ∧ xs.length ≤ c ∧ c ≤ maxLen ∧
    (0 < xs.length → ∃ b off, A = some ⟨b, off, none⟩ ∧ b < w.heap.size ∧ ∀ k, k < xs.length → w.cell? ⟨b, off + k, none⟩ = some (.int .i64 (xs.getD k 0)))

theorem Rd.of_row {w : World} {x : Addr} {len cap : Nat} {zs : List Int} (hl : len ≤ cap) (hm : cap ≤ maxLen) (hz : len ≤ zs.length)
    (hcell : ∀ i, i < zs.length → w.cell? (x.add i) = some (.int .i64 (zs.getD i 0))) : Rd w (.slice (some x) len cap) (zs.take len) := by
  have hlen : (zs.take len).length = len := by rw [List.length_take]; omega
  refine ⟨some x, cap, by rw [hlen], by omega, hm, fun h0 => ?_⟩
  obtain ⟨b, off, spot⟩ := x
  have hc := hcell 0 (by omega)
  have hspot : spot = none := by simpa [Addr.add] using World.cell?_spot hc
  subst hspot
  refine ⟨b, off, rfl, ?_, fun k hk => ?_⟩
  · have := World.block_lt_of_cell? w _ hc
    simpa [Addr.add] using this
  · have := hcell k (by omega)
    rw [Addr.add_lit] at this
    rw [this]
    rw [hlen] at hk
    simp [hk]
theorem Rd.nil_ (w : World) : Rd w (.slice none 0 0) [] := ⟨none, 0, rfl, Nat.le_refl _, by unfold maxLen; omega, fun h => absurd h (by simp)⟩
theorem Rd.keep {w w' : World} {v : Value} {xs : List Int} (h : Rd w v xs) (hs : w.heap.size ≤ w'.heap.size) (hk : ∀ p : Addr, p.block < w.heap.size → w'.cell? p = w.cell? p) : Rd w' v xs := by
  obtain ⟨A, c, rfl, hl, hc, hb⟩ := h
  refine ⟨A, c, rfl, hl, hc, fun h0 => ?_⟩
  obtain ⟨b, off, rfl, hlt, hcell⟩ := hb h0
  exact ⟨b, off, rfl, by omega, fun k hk' => by rw [hk _ hlt]; exact hcell k hk'⟩
theorem Rd.below {w w' : World} {v : Value} {xs : List Int} (h : Rd w v xs) (hb : Below w.heap.size w w') : Rd w' v xs :=
  h.keep hb.size fun _ hp => hb.cell hp
theorem Rd.drewN {w : World} {v : Value} {xs : List Int} (h : Rd w v xs) (n : Nat) : Rd (w.drewN n) v xs := h
theorem Rd.alloc {w : World} {v : Value} {xs : List Int} (h : Rd w v xs) (o : Obj) : Rd (w.alloc o) v xs :=
  h.below ((Below.refl _ _).alloc (Nat.le_refl _) _)

/-- THE SLICE VALUE v IS NIL OR LIES AT THE HEAD OF A BLOCK FROM base ON, and holds xs. -/
def Own (w : World) (base : Nat) (v : Value) (xs : List Int) : Prop := w.ownsRow base 3 1 v xs.length (xs.map (Value.int .i64))

theorem Own.rd {w : World} {base : Nat} {v : Value} {xs : List Int} (h : Own w base v xs) : Rd w v xs := by
  have hc := fun g hg => World.ownsRow.cells h (g := g) hg
  have hlt := World.ownsRow.lt h
  rcases h.2 with ⟨rfl, h0⟩ | ⟨g, cap, cur, rfl, hb, hg, hle, hm, hs, ht⟩
  · have hx : xs = [] := List.eq_nil_of_length_eq_zero h0
    subst hx
    exact Rd.nil_ w
  · refine ⟨_, cap, rfl, hle, hm, fun _ => ⟨g, 0, rfl, (hlt g rfl).2, fun k hk => ?_⟩⟩
    have := hc g rfl k (.int .i64 (xs.getD k 0)) (by simp [hk])
    simpa [Addr.add_lit] using this
theorem Own.mono {w : World} {b b' : Nat} {v : Value} {xs : List Int} (h : Own w b v xs) (hb : b' ≤ b) : Own w b' v xs := by
  refine ⟨h.1, ?_⟩
  rcases h.2 with h0 | ⟨g, cap, cur, hv, hg, r⟩
  · exact .inl h0
  · exact .inr ⟨g, cap, cur, hv, by omega, r⟩
theorem Own.lt {w : World} {base : Nat} {v : Value} {xs : List Int} (h : Own w base v xs) : ∀ k, v.ownBlock = some k → base ≤ k ∧ k < w.heap.size := World.ownsRow.lt h
theorem Own.below {w w' : World} {base : Nat} {v : Value} {xs : List Int} (h : Own w base v xs) (hb : Below w.heap.size w w') : Own w' base v xs := by
  refine ⟨h.1, ?_⟩
  rcases h.2 with h0 | ⟨g, cap, cur, hv, hg, hh, r⟩
  · exact .inl h0
  · exact .inr ⟨g, cap, cur, hv, hg, by rw [hb.block g (Array.getElem?_eq_some_iff.1 hh).1]; exact hh, r⟩
theorem Own.drewN {w : World} {base : Nat} {v : Value} {xs : List Int} (h : Own w base v xs) (n : Nat) : Own (w.drewN n) base v xs := h
theorem Own.alloc {w : World} {base : Nat} {v : Value} {xs : List Int} (h : Own w base v xs) (o : Obj) : Own (w.alloc o) base v xs := World.ownsRow.alloc h o
/-- Another slice's cells are written: this one stays. -/
theorem Own.kept {w w' : World} {base : Nat} {v : Value} {xs : List Int} {row : Option Nat} (h : Own w base v xs) (hg : w.grownBy w' row) (hne : v.ownBlock = none ∨ v.ownBlock ≠ row) : Own w' base v xs := World.ownsRow.kept h hg hne
/-- Own slices made at different times lie in different blocks. -/
theorem Own.apart {w w' : World} {base base' : Nat} {v v' : Value} {xs ys : List Int} (h : Own w base v xs) (h' : Own w' base' v' ys) (hb : w.heap.size ≤ base') : v.ownBlock = none ∨ v.ownBlock ≠ v'.ownBlock := by
  rcases hv : v.ownBlock with _ | g
  · exact .inl rfl
  · right
    intro e
    have h1 := h.lt g hv
    have h2 := h'.lt g (by rw [← e])
    omega

theorem Own.form {w : World} {base : Nat} {v : Value} {xs : List Int} (h : Own w base v xs) :
    ∃ A c, v = .slice A xs.length c ∧ c ≤ maxLen ∧ xs.length ≤ c ∧ (0 < xs.length → ∃ g, A = some ⟨g, 0, none⟩ ∧ base ≤ g ∧ g < w.heap.size) := by
  have hl := h.lt
  rcases h.2 with ⟨rfl, e⟩ | ⟨g, cap, cur, rfl, hb, hg, hle, hm, _⟩
  · exact ⟨none, 0, by rw [e], by unfold maxLen; omega, by omega, fun h => absurd h (by omega)⟩
  · exact ⟨_, cap, rfl, hm, hle, fun _ => ⟨g, rfl, hb, (hl g rfl).2⟩⟩

/-- an own slice that is not empty: where it lies -/
theorem Own.at_ {w : World} {base : Nat} {v : Value} {xs : List Int} {n : Nat} (h : Own w base v xs) (hl : xs.length = n) (h0 : 0 < n) :
    ∃ g c, v = .slice (some ⟨g, 0, none⟩) n c ∧ base ≤ g ∧ c ≤ maxLen ∧ n ≤ c ∧ (∀ k, k < n → w.cell? ⟨g, k, none⟩ = some (.int .i64 (xs.getD k 0))) ∧ ∀ k, w.frozen? ⟨g, k, none⟩ = false := by
  have hc := h.rd
  subst hl
  have hr : w.ownsRow base 3 1 v xs.length (xs.map (Value.int .i64)) := h
  rcases h.2 with ⟨_, e⟩ | ⟨g, cap, cur, rfl, hb, hg, hle, hm, _⟩
  · omega
  · refine ⟨g, cap, rfl, hb, hm, hle, fun k hk => ?_, fun k => World.ownsRow.frozenAt hr k⟩
    obtain ⟨A, c, e, _, _, hx⟩ := hc
    obtain ⟨b, off, rfl, _, hx⟩ := hx h0
    injection e with e1 _ _
    injection e1 with e1
    injection e1 with e1 e2 _
    subst e1
    subst e2
    have := hx k hk
    simpa using this
/-- a store into an own slice -/
theorem Own.set_ {w : World} {base g n c : Nat} {xs : List Int} (h : Own w base (.slice (some ⟨g, 0, none⟩) n c) xs) (hl : xs.length = n) (k : Nat) (y : Int) :
    Own (w.setCell ⟨g, k, none⟩ (.int .i64 y)) base (.slice (some ⟨g, 0, none⟩) n c) (xs.set k y) ∧ w.grownBy (w.setCell ⟨g, k, none⟩ (.int .i64 y)) (some g) := by
  subst hl
  have hr : w.ownsRow base 3 1 (.slice (some ⟨g, 0, none⟩) xs.length c) xs.length (xs.map (Value.int .i64)) := h
  have := World.ownsRow.stored hr k (.int .i64 y)
  refine ⟨?_, this.2⟩
  unfold Own
  rw [List.length_set, List.map_set]
  exact this.1
theorem set_map_take (f : Int → Int) (xs : List Int) (k : Nat) (hk : k < xs.length) : ((xs.map f).take k ++ xs.drop k).set k (f (xs.getD k 0)) = (xs.map f).take (k + 1) ++ xs.drop (k + 1) := by
  have hl : ((xs.map f).take k).length = k := by rw [List.length_take, List.length_map]; omega
  have e : xs.getD k 0 = xs[k] := by simp [hk]
  rw [List.set_append_right _ _ (by omega), hl, Nat.sub_self, List.drop_eq_getElem_cons hk, List.set_cons_zero, List.take_succ_eq_append_getElem (by simpa using hk), List.append_assoc, e]
  simp
theorem below_drewN {B : Nat} {a w : World} (h : Below B a w) (n : Nat) : Below B a (w.drewN n) := ⟨h.os, h.tape, h.output, h.size, h.block⟩
theorem below_grown {B : Nat} {a w w' : World} {row : Option Nat} (h : Below B a w) (hg : w.grownBy w' row) (hB : B ≤ w.heap.size) (hr : ∀ k, row = some k → B ≤ k) : Below B a w' := h.grown hg hB hr
/-- the cells and marks of what was there -/
theorem bcell {W w1 : World} (hb : Below W.heap.size W w1) : (∀ b o, b < W.heap.size → w1.cell? ⟨b, o, none⟩ = W.cell? ⟨b, o, none⟩) ∧ (∀ b o, b < W.heap.size → w1.frozen? ⟨b, o, none⟩ = W.frozen? ⟨b, o, none⟩) :=
  ⟨fun b o h => hb.cell (p := ⟨b, o, none⟩) h, fun b o h => hb.frozen (p := ⟨b, o, none⟩) h⟩
theorem Below.of_eq {w w' : World} (h : w = w') : Below w.heap.size w w' := by subst h; exact Below.refl _ _
/-- One call behind another. -/
theorem Below.then {w w1 w2 : World} (h : Below w.heap.size w w1) (k : Below w1.heap.size w1 w2) : Below w.heap.size w w2 := h.trans (k.mono h.size)

/-- A REGION THAT DRAWS ITS ORDER, its operations only read, its callees leave all that was there: walked once. -/
theorem wp_region_below {P : Program} {id : Nat} {Q : Exit → Act → World → Prop} {a : Act} {w : World} {l : List Oper} (hm : P.follows .mixedOrders = true) (hB : Region.lexB .any l.toArray = true)
    (h : wpQuiet P l.toArray (fun w' => ∃ p : Regrown, w' = grow (redrawn w p.d) p.os) (fun a' => ∀ w', Below w.heap.size w w' → Q .normal a' w') l a) : (Code.region id l.toArray true).wp P Q a w :=
  wp_region_quiet (C := fun w' => ∃ p : Regrown, w' = grow (redrawn w p.d) p.os) hm hB ⟨⟨w.drawn + 1, #[]⟩, by rw [grow_empty]; rfl⟩ (by
    have e : (fun a' => ∀ w', (∃ p : Regrown, w' = grow (redrawn w p.d) p.os) → Q .normal a' w') = (fun a' => ∀ w', Below w.heap.size w w' → Q .normal a' w') := by
      funext a'
      exact propext ⟨fun h w' hb => h w' (regrown_of_below hb), fun h w' ⟨p, hp⟩ => by subst hp; exact h _ (below_regrown w p.d p.os)⟩
    rw [e]
    simpa using h)

end Go.Proofs.Ytajeledbmnndmaa

namespace Go.Proofs.Ytajeledbmnndmaa
open Go.RowKit

def inB (n lo hi : Int) : Bool := decide (lo ≤ n) && decide (n ≤ hi)
theorem inB_true {n lo hi : Int} : inB n lo hi = true ↔ lo ≤ n ∧ n ≤ hi := by simp [inB]
theorem inB_false {n lo hi : Int} : inB n lo hi = false ↔ ¬ (lo ≤ n ∧ n ≤ hi) := by rw [← inB_true]; simp

set_option maxHeartbeats 400000 in
theorem l01In_any (n lo hi : Int) (w : World) : Calls Try.prog 116 #[.int .i64 n, .int .i64 lo, .int .i64 hi] w fun e w' => e = .returned (.bool (inB n lo hi)) ∧ w = w' := by
  by_cases h : lo ≤ n
  · have hd : decide (lo ≤ n) = true := by simpa using h
    go_enter Try.func116, Try.ntmps116
    go_wp2
    go_ret
    exact ⟨ret_bool (by simp [inB, h]), rfl⟩
  · have hd : decide (lo ≤ n) = false := by simpa using h
    go_enter Try.func116, Try.ntmps116
    go_wp2
    go_ret
    exact ⟨ret_bool (by simp [inB, hd]), rfl⟩
set_option maxHeartbeats 400000 in
theorem within_any (n lo hi : Int) (w : World) : Calls Try.prog 86 #[.int .i64 n, .int .i64 lo, .int .i64 hi] w fun e w' => e = .returned (.bool (inB n lo hi)) ∧ w = w' := by
  by_cases h : lo ≤ n
  · have hd : decide (lo ≤ n) = true := by simpa using h
    go_enter Try.func86, Try.ntmps86
    go_wp2
    go_ret
    exact ⟨ret_bool (by simp [inB, h]), rfl⟩
  · have hd : decide (lo ≤ n) = false := by simpa using h
    go_enter Try.func86, Try.ntmps86
    go_wp2
    go_ret
    exact ⟨ret_bool (by simp [inB, hd]), rfl⟩

/-- slices.Index over ints -/
def indexI (xs : List Int) (x : Int) : Int := if x ∈ xs then (xs.idxOf x : Int) else -1
theorem indexI_hit {xs : List Int} {x : Int} {k : Nat} (hk : k < xs.length) (hx : x = xs[k]?.getD 0) (hn : x ∉ xs.take k) : indexI xs x = k := by
  have e : xs[k]?.getD 0 = xs[k] := by simp [hk]
  have hm : x ∈ xs := by rw [hx, e]; exact List.getElem_mem hk
  have hd : xs = xs.take k ++ xs.drop k := (List.take_append_drop k xs).symm
  have h2 : xs.drop k = x :: xs.drop (k + 1) := by rw [List.drop_eq_getElem_cons hk, hx, e]
  have hl : (xs.take k).length = k := by rw [List.length_take]; omega
  unfold indexI
  rw [if_pos hm]
  have : xs.idxOf x = k := by
    rw [hd, h2, List.idxOf_append, if_neg hn, List.idxOf_cons_self, hl, Nat.zero_add]
  rw [this]
theorem indexI_miss {xs : List Int} {x : Int} (hn : x ∉ xs) : indexI xs x = -1 := by unfold indexI; rw [if_neg hn]
theorem notMem_take_succ {xs : List Int} {x : Int} {k : Nat} (hk : k < xs.length) (hx : ¬ x = xs[k]?.getD 0) (hn : x ∉ xs.take k) : x ∉ xs.take (k + 1) := by
  rw [List.take_succ_eq_append_getElem hk]
  have e : xs[k]?.getD 0 = xs[k] := by simp [hk]
  rw [e] at hx
  rw [List.mem_append, List.mem_singleton]
  exact fun h => h.elim hn hx

set_option maxHeartbeats 400000 in
theorem index_any (v : Value) (xs : List Int) (x : Int) (w : World) (h : Rd w v xs) :
    Calls Try.prog 135 #[v, .int .i64 x] w fun e w' => e = .returned (.int .i64 (indexI xs x)) ∧ w = w' := by
  obtain ⟨A, c, rfl, hl1, hm1, hc1⟩ := h
  unfold maxLen at hm1
  generalize hn : xs.length = n at *
  have H1 := Lib.hid hn
  have H3 := Lib.hid hc1
  clear hn hc1
  go_enter Try.func135, Try.ntmps135
  go_wp2
  go_loop [8] (fun i => ∃ k : Nat, k ≤ n ∧ i = .int .i64 k ∧ Hid (x ∉ xs.take k)) (fun i => n - (intOf i).toNat)
  case atStart => exact ⟨0, Nat.zero_le _, rfl, by simp [Hid]⟩
  case round =>
    obtain ⟨k, hk, rfl, HN⟩ := hrel
    by_cases hlt : k < n
    · obtain ⟨b, off, rfl, hb, hx⟩ := H3.out (by omega)
      have hxk := hx k hlt
      clear hx
      go_wp2
      · have h : (x == xs[k]?.getD 0) = true := by assumption
        go_ret
        exact ⟨ret_int (indexI_hit (by have := H1.out; omega) (by simpa using h) HN.out).symm, rfl⟩
      · have h : (x == xs[k]?.getD 0) = false := by assumption
        go_round
        case rel => exact ⟨k + 1, by omega, by go_num, notMem_take_succ (by have := H1.out; omega) (by simpa using h) HN.out⟩
        case measure => simp [intOf]; omega
    · obtain rfl : k = n := by omega
      go_wp2
      go_ret
      exact ⟨ret_int (indexI_miss (by have := HN.out; rwa [List.take_of_length_le (by rw [H1.out]; exact Nat.le_refl _)] at this)).symm, rfl⟩

/-- slices.Contains over ints -/
def containsI (xs : List Int) (x : Int) : Bool := decide (x ∈ xs)
theorem containsI_index (xs : List Int) (x : Int) : decide (0 ≤ indexI xs x) = containsI xs x := by
  unfold containsI indexI
  by_cases h : x ∈ xs <;> simp [h]
set_option maxHeartbeats 400000 in
theorem contains_any (v : Value) (xs : List Int) (x : Int) (w : World) (h : Rd w v xs) :
    Calls Try.prog 97 #[v, .int .i64 x] w fun e w' => e = .returned (.bool (containsI xs x)) ∧ w = w' := by
  go_enter Try.func97, Try.ntmps97
  go_wp2_with (go_at_call 135; refine (index_any _ _ _ _ h).mono ?_; rintro e w1 ⟨rfl, rfl⟩)
  go_ret
  exact ⟨ret_bool (containsI_index xs x), rfl⟩
end Go.Proofs.Ytajeledbmnndmaa

namespace Go.Proofs.Ytajeledbmnndmaa
open Go.RowKit

/-- function number F with what it has captured is entered -/
def Enters (F : FuncId) : Prop := ∀ (args : Array Value) (W : World), (callFunc F args).run Try.prog W = .ok (.enter F args) W

def findI (p : Int → Bool) (xs : List Int) : Int := match xs.findIdx? p with | some k => (k : Int) | none => -1

theorem findI_any (p : Int → Bool) (xs : List Int) : decide (0 ≤ findI p xs) = xs.any p := by
  unfold findI
  rcases h : xs.findIdx? p with _ | k
  · rw [List.findIdx?_eq_none_iff] at h
    have : xs.any p = false := by simpa using h
    rw [this]; rfl
  · have hh := List.findIdx?_eq_some_iff_getElem.1 h
    obtain ⟨hl, hp, _⟩ := hh
    have : xs.any p = true := by rw [List.any_eq_true]; exact ⟨_, List.getElem_mem hl, hp⟩
    rw [this]; simp
theorem findI_miss {p : Int → Bool} {xs : List Int} (h : ∀ x ∈ xs, p x = false) : findI p xs = -1 := by
  unfold findI
  have : xs.findIdx? p = none := by rw [List.findIdx?_eq_none_iff]; simpa using h
  rw [this]
theorem findI_hit {p : Int → Bool} {xs : List Int} {k : Nat} (hk : k < xs.length) (hp : p (xs[k]?.getD 0) = true) (h : ∀ x ∈ xs.take k, p x = false) : findI p xs = k := by
  unfold findI
  have e : xs[k]?.getD 0 = xs[k] := by simp [hk]
  rw [e] at hp
  have : xs.findIdx? p = some k := by
    rw [List.findIdx?_eq_some_iff_getElem]
    refine ⟨hk, hp, fun j hj => ?_⟩
    have := h xs[j] (by
      rw [List.mem_iff_getElem?]
      exact ⟨j, by rw [List.getElem?_take, if_pos hj, List.getElem?_eq_getElem]⟩)
    simp [this]
  rw [this]
theorem findI_step {p : Int → Bool} {xs : List Int} {k : Nat} (hk : k < xs.length) (hp : p (xs[k]?.getD 0) = false) (h : ∀ x ∈ xs.take k, p x = false) : ∀ x ∈ xs.take (k + 1), p x = false := by
  rw [List.take_succ_eq_append_getElem hk]
  have e : xs[k]?.getD 0 = xs[k] := by simp [hk]
  rw [e] at hp
  intro x hx
  rw [List.mem_append, List.mem_singleton] at hx
  rcases hx with hx | rfl
  · exact h x hx
  · exact hp

set_option maxHeartbeats 1000000 in
theorem indexFunc_any (F : FuncId) (caps : Array Value) (hE : Enters F) (v : Value) (xs : List Int) (p : Int → Bool) (w : World) (h : Rd w v xs)
    (hf : ∀ x ∈ xs, ∀ w', Below w.heap.size w w' → Calls Try.prog F (#[.int .i64 x] ++ caps) w' fun e w'' => e = .returned (.bool (p x)) ∧ Below w'.heap.size w' w'') :
    Calls Try.prog 90 #[v, .func (.func F) #[] caps] w fun e w' => e = .returned (.int .i64 (findI p xs)) ∧ Below w.heap.size w w' := by
  obtain ⟨A, c, rfl, hl1, hm1, hc1⟩ := h
  unfold maxLen at hm1
  generalize hn : xs.length = n at *
  have H1 := Lib.hid hn
  have H3 := Lib.hid hc1
  have HF := Lib.hid hf
  clear hn hc1 hf
  have hE' : ∀ (args : Array Value) (W : World), (callFunc F args).run Try.prog W = .ok (.enter F args) W := hE
  go_enter Try.func90, Try.ntmps90
  go_wp2
  go_loopw [8] (fun i wr => ∃ k : Nat, k ≤ n ∧ i = .int .i64 k ∧ Below w.heap.size w wr ∧ Hid (∀ x ∈ xs.take k, p x = false)) (fun i _ => n - (intOf i).toNat)
  case atStart => exact ⟨0, Nat.zero_le _, rfl, Below.refl _ _, by simp [Hid]⟩
  case round =>
    obtain ⟨k, hk, rfl, hb, HN⟩ := hrel
    by_cases hlt : k < n
    · obtain ⟨b, off, rfl, hbb, hx⟩ := H3.out (by omega)
      have hxk : wr.cell? ⟨b, off + k, none⟩ = some (.int .i64 (xs.getD k 0)) := (hb.cell (by exact hbb)).trans (hx k hlt)
      have HB := Lib.hid hb
      clear hx hb
      have hmem : xs[k]?.getD 0 ∈ xs := by
        have hl : k < xs.length := by rw [H1.out]; exact hlt
        rw [List.getElem?_eq_getElem hl]; exact List.getElem_mem hl
      go_wp2_with fail
      refine (HF.out _ hmem wr HB.out).mono ?_
      rintro e w1 ⟨rfl, hb1⟩
      have hbb1 : Below w.heap.size w w1 := Below.then HB.out hb1
      have HB1 := Lib.hid hbb1
      clear hb1 hbb1 hxk hmem
      rcases hp : p (xs[k]?.getD 0) with _ | _
      · go_wp2_with fail
        go_roundw
        case rel => exact ⟨k + 1, by omega, by go_num, HB1.out, findI_step (by rw [H1.out]; exact hlt) hp HN.out⟩
        case measure => simp [intOf]; omega
      · go_wp2_with fail
        go_ret
        exact ⟨ret_int (findI_hit (by rw [H1.out]; exact hlt) hp HN.out).symm, HB1.out⟩
    · obtain rfl : k = n := by omega
      go_wp2
      go_ret
      exact ⟨ret_int (findI_miss (by have := HN.out; rwa [List.take_of_length_le (by rw [H1.out]; exact Nat.le_refl _)] at this)).symm, hb⟩
set_option maxHeartbeats 1000000 in
theorem containsFunc_any (F : FuncId) (caps : Array Value) (hE : Enters F) (v : Value) (xs : List Int) (p : Int → Bool) (w : World) (h : Rd w v xs)
    (hf : ∀ x ∈ xs, ∀ w', Below w.heap.size w w' → Calls Try.prog F (#[.int .i64 x] ++ caps) w' fun e w'' => e = .returned (.bool (p x)) ∧ Below w'.heap.size w' w'') :
    Calls Try.prog 130 #[v, .func (.func F) #[] caps] w fun e w' => e = .returned (.bool (xs.any p)) ∧ Below w.heap.size w w' := by
  have HF := Lib.hid hf
  clear hf
  go_enter Try.func130, Try.ntmps130
  go_wp2_with fail
  refine (indexFunc_any F caps hE v xs p w h HF.out).mono ?_
  rintro e w1 ⟨rfl, hb⟩
  have HB := Lib.hid hb
  clear hb
  go_wp2
  go_ret
  exact ⟨ret_bool (findI_any p xs), HB.out⟩
end Go.Proofs.Ytajeledbmnndmaa

namespace Go.Proofs.Ytajeledbmnndmaa
open Go.RowKit

set_option maxHeartbeats 400000 in
theorem allWithin1_any (x lo hi : Int) (a b : Addr) (w : World) (ha : w.cell? a = some (.int .i64 lo)) (hb : w.cell? b = some (.int .i64 hi)) :
    Calls Try.prog 131 #[.int .i64 x, .pointer (some a), .pointer (some b)] w fun e w' => e = .returned (.bool (!inB x lo hi)) ∧ w = w' := by
  go_enter Try.func131, Try.ntmps131
  go_wp2_with (go_at_call 86; refine (within_any _ _ _ _).mono ?_; rintro e w1 ⟨rfl, rfl⟩)
  go_ret
  exact ⟨rfl, rfl⟩
theorem enters_allWithin1 : Enters 131 := fun _ _ => by kernel_rfl

def allB (xs : List Int) (lo hi : Int) : Bool := xs.all fun x => inB x lo hi
theorem allB_any (xs : List Int) (lo hi : Int) : (!(xs.any fun x => !inB x lo hi)) = allB xs lo hi := by
  unfold allB
  rw [List.all_eq_not_any_not]
set_option maxHeartbeats 400000 in
theorem allWithin_any (v : Value) (xs : List Int) (lo hi : Int) (w : World) (h : Rd w v xs) :
    Calls Try.prog 77 #[v, .int .i64 lo, .int .i64 hi] w fun e w' => e = .returned (.bool (allB xs lo hi)) ∧ Below w.heap.size w w' := by
  have HR := Lib.hid h
  clear h
  go_enter Try.func77, Try.ntmps77
  go_wp2_with fail
  have hf : ∀ x ∈ xs, ∀ w', Below ((w.alloc (.cells #[.int .i64 lo] 3)).alloc (.cells #[.int .i64 hi] 3)).heap.size ((w.alloc (.cells #[.int .i64 lo] 3)).alloc (.cells #[.int .i64 hi] 3)) w' →
      Calls Try.prog 131 (#[.int .i64 x] ++ #[.pointer (some ⟨w.heap.size, 0, none⟩), .pointer (some ⟨w.heap.size + 1, 0, none⟩)]) w' fun e w'' => e = .returned (.bool (!inB x lo hi)) ∧ Below w'.heap.size w' w'' := by
    intro x _ w' hb
    refine (allWithin1_any x lo hi _ _ w' ?_ ?_).mono ?_
    · rw [hb.cell (by simp; try omega)]; simp
    · rw [hb.cell (by simp; try omega)]; simp
    · rintro e w1 ⟨rfl, rfl⟩
      exact ⟨rfl, Below.refl _ _⟩
  refine (containsFunc_any _ _ enters_allWithin1 v xs (fun x => !inB x lo hi) _ ((HR.out.alloc _).alloc _) hf).mono ?_
  rintro e w1 ⟨rfl, hb⟩
  have hb1 : Below w.heap.size w w1 := Below.then (((Below.refl _ _).alloc (Nat.le_refl _) _).alloc (by simp) _) (hb.mono (by simp))
  have HB := Lib.hid hb1
  clear hb hb1 hf
  go_wp2_with fail
  go_ret
  exact ⟨ret_bool (allB_any xs lo hi), HB.out⟩
end Go.Proofs.Ytajeledbmnndmaa

namespace Go.Proofs.Ytajeledbmnndmaa
open Go.RowKit Go.Sort

/-- a tour in a box -/
def TBox (W : World) (g : Nat) (s : Int) (sl : Value) : Prop := W.cell? ⟨g, 0, none⟩ = some (.int .i64 s) ∧ W.cell? ⟨g, 1, none⟩ = some sl
theorem TBox.below {W W' : World} {g : Nat} {s : Int} {sl : Value} (h : TBox W g s sl) (hb : Below W.heap.size W W') : TBox W' g s sl :=
  ⟨(hb.cell (World.block_lt_of_cell? W _ h.1)).trans h.1, (hb.cell (World.block_lt_of_cell? W _ h.2)).trans h.2⟩
theorem TBox.new (w : World) (s : Int) (sl : Value) (t : TypeId) : TBox (w.alloc (.cells #[.int .i64 s, sl] t)) w.heap.size s sl := ⟨by simp, by simp⟩
theorem below_alloc1 (w : World) (o : Obj) : Below w.heap.size w (w.alloc o) := (Below.refl _ _).alloc (Nat.le_refl _) _
/-- a contract that holds in every world above, as a region that draws meets it -/
theorem quiet_below {P : Program} {f : FuncId} {args : Array Value} {w : World} {v : Value}
    (h : ∀ W, Below w.heap.size w W → Calls P f args W fun e w' => e = .returned v ∧ Below W.heap.size W w') (d : Nat) (os : Array Obj) :
    Calls P f args (grow (redrawn w d) os) fun e w'' => e = .returned v ∧ ∃ p : Regrown, w'' = grow (redrawn w p.d) p.os := Calls.regrown_of (h _ (below_regrown w d os))
theorem of_same {P : Program} {f : FuncId} {args : Array Value} {w : World} {v : Value} (h : Calls P f args w fun e w' => e = .returned v ∧ w = w') : Calls P f args w fun e w' => e = .returned v ∧ Below w.heap.size w w' :=
  h.mono fun _ _ ⟨h1, h2⟩ => ⟨h1, by subst h2; exact Below.refl _ _⟩
theorem of_drew {P : Program} {f : FuncId} {args : Array Value} {w : World} {v : Value} (h : Calls P f args w fun e w' => e = .returned v ∧ ∃ q, w' = w.drewN q) : Calls P f args w fun e w' => e = .returned v ∧ Below w.heap.size w w' :=
  h.mono fun _ _ ⟨h1, q, h2⟩ => ⟨h1, by subst h2; exact below_drewN (Below.refl _ _) q⟩

/-- a result in a box -/
def Box4 (W : World) (g : Nat) (a b c d : Int) : Prop := W.cell? ⟨g, 0, none⟩ = some (.int .i64 a) ∧ W.cell? ⟨g, 1, none⟩ = some (.int .i64 b) ∧ W.cell? ⟨g, 2, none⟩ = some (.int .i64 c) ∧ W.cell? ⟨g, 3, none⟩ = some (.int .i64 d)
theorem Box4.below {W W' : World} {g : Nat} {a b c d : Int} (h : Box4 W g a b c d) (hb : Below W.heap.size W W') : Box4 W' g a b c d := by
  obtain ⟨h0, h1, h2, h3⟩ := h
  exact ⟨(hb.cell (World.block_lt_of_cell? W _ h0)).trans h0, (hb.cell (World.block_lt_of_cell? W _ h1)).trans h1, (hb.cell (World.block_lt_of_cell? W _ h2)).trans h2, (hb.cell (World.block_lt_of_cell? W _ h3)).trans h3⟩

theorem Box4.new (w : World) (a b c d : Int) (t : TypeId) : Box4 (w.alloc (.cells #[.int .i64 a, .int .i64 b, .int .i64 c, .int .i64 d] t)) w.heap.size a b c d := ⟨by simp, by simp, by simp, by simp⟩
theorem TBox.kept {W W' : World} {g : Nat} {s : Int} {sl : Value} {row : Option Nat} (h : TBox W g s sl) (hg : W.grownBy W' row) (hne : some g ≠ row) : TBox W' g s sl :=
  ⟨(World.cell?_of_block (hg.block g (World.block_lt_of_cell? W _ h.1) hne)).trans h.1, (World.cell?_of_block (hg.block g (World.block_lt_of_cell? W _ h.2) hne)).trans h.2⟩
theorem nb_ne {a : Option Nat} {g : Nat} (h : a = none ∨ a ≠ some g) : some g ≠ a := by
  rcases h with h | h
  · subst h; simp
  · exact Ne.symm h
theorem own_box_new {w : World} {base : Nat} {v : Value} {xs : List Int} (h : Own w base v xs) : v.ownBlock = none ∨ v.ownBlock ≠ some w.heap.size := by
  rcases e : v.ownBlock with _ | k
  · exact .inl rfl
  · right
    have := (h.lt k e).2
    intro h2
    injection h2
    omega
theorem own_box_old {w w' : World} {g : Nat} {s : Int} {sl v : Value} {xs : List Int} (t : TBox w' g s sl) (h : Own w w'.heap.size v xs) : v.ownBlock = none ∨ v.ownBlock ≠ some g := by
  rcases e : v.ownBlock with _ | k
  · exact .inl rfl
  · right
    have h1 := (h.lt k e).1
    have h3 : g < w'.heap.size := World.block_lt_of_cell? w' _ t.1
    intro h2
    injection h2
    omega
theorem apart_of {v v' : Value} {B : Nat} (h : ∀ k, v.ownBlock = some k → k < B) (h' : ∀ k, v'.ownBlock = some k → B ≤ k) : v.ownBlock = none ∨ v.ownBlock ≠ v'.ownBlock := by
  rcases e : v.ownBlock with _ | g
  · exact .inl rfl
  · right
    intro e'
    have h1 := h g e
    have h2 := h' g e'.symm
    omega
theorem box_new_of {v : Value} {B : Nat} (h : ∀ k, v.ownBlock = some k → k < B) : v.ownBlock = none ∨ v.ownBlock ≠ some B := by
  rcases e : v.ownBlock with _ | k
  · exact .inl rfl
  · right
    have := h k e
    intro h2
    injection h2
    omega
theorem box_old_of {w' : World} {g : Nat} {s : Int} {sl v : Value} (t : TBox w' g s sl) (h : ∀ k, v.ownBlock = some k → w'.heap.size ≤ k) : v.ownBlock = none ∨ v.ownBlock ≠ some g := by
  rcases e : v.ownBlock with _ | k
  · exact .inl rfl
  · right
    have h1 := h k e
    have h3 : g < w'.heap.size := World.block_lt_of_cell? w' _ t.1
    intro h2
    injection h2
    omega
end Go.Proofs.Ytajeledbmnndmaa

namespace Go.Proofs.Ytajeledbmnndmaa
open Go.RowKit

theorem ofInt_i64 (a : Nat) (ha : a < 9223372036854775808) : (BitVec.ofInt 64 (a : Int)).toNat = a := by
  rw [BitVec.ofInt_natCast, BitVec.toNat_ofNat]; exact Nat.mod_eq_of_lt (by omega)
theorem i64_and_nat (a b : Nat) (ha : a < 9223372036854775808) (hb : b < 9223372036854775808) : bits .and .i64 (a : Int) (b : Int) = ((a &&& b : Nat) : Int) := by
  have hx : a &&& b < 2 ^ 63 := Nat.and_lt_two_pow _ (by omega)
  show IntKind.i64.wrap ((BitVec.ofInt 64 (a : Int) &&& BitVec.ofInt 64 (b : Int)).toNat : Int) = _
  rw [BitVec.toNat_and, ofInt_i64 a ha, ofInt_i64 b hb, IntKind.wrap_i64]
  omega
theorem i64_or_nat (a b : Nat) (ha : a < 9223372036854775808) (hb : b < 9223372036854775808) : bits .or .i64 (a : Int) (b : Int) = ((a ||| b : Nat) : Int) := by
  have hx : a ||| b < 2 ^ 63 := Nat.or_lt_two_pow (by omega) (by omega)
  show IntKind.i64.wrap ((BitVec.ofInt 64 (a : Int) ||| BitVec.ofInt 64 (b : Int)).toNat : Int) = _
  rw [BitVec.toNat_or, ofInt_i64 a ha, ofInt_i64 b hb, IntKind.wrap_i64]
  omega
theorem i64_xor_nat (a b : Nat) (ha : a < 9223372036854775808) (hb : b < 9223372036854775808) : bits .xor .i64 (a : Int) (b : Int) = ((a ^^^ b : Nat) : Int) := by
  have hx : a ^^^ b < 2 ^ 63 := Nat.xor_lt_two_pow (by omega) (by omega)
  show IntKind.i64.wrap ((BitVec.ofInt 64 (a : Int) ^^^ BitVec.ofInt 64 (b : Int)).toNat : Int) = _
  rw [BitVec.toNat_xor, ofInt_i64 a ha, ofInt_i64 b hb, IntKind.wrap_i64]
  omega
/-- what is in a and not in b -/
def less (a b : Nat) : Nat := a ^^^ (a &&& b)
theorem testBit_less (a b i : Nat) : (less a b).testBit i = (a.testBit i && !b.testBit i) := by
  unfold less; rw [Nat.testBit_xor, Nat.testBit_and]; cases a.testBit i <;> cases b.testBit i <;> rfl
theorem i64_andNot_nat (a b : Nat) (ha : a < 9223372036854775808) (hb : b < 9223372036854775808) : bits .andNot .i64 (a : Int) (b : Int) = ((less a b : Nat) : Int) := by
  have e : (BitVec.ofInt 64 (a : Int) &&& ~~~BitVec.ofInt 64 (b : Int)).toNat = less a b := by
    apply Nat.eq_of_testBit_eq
    intro i
    rw [testBit_less, BitVec.toNat_and, Nat.testBit_and, ofInt_i64 a ha]
    rcases Nat.lt_or_ge i 64 with hi | hi
    · congr 1
      rw [BitVec.testBit_toNat, BitVec.getLsbD_not, ← BitVec.testBit_toNat, ofInt_i64 b hb]
      simp [hi]
    · rw [Nat.testBit_lt_two_pow (Nat.lt_of_lt_of_le ha (Nat.le_trans (by decide : 9223372036854775808 ≤ 2 ^ 64) (Nat.pow_le_pow_right (by decide) hi)))]
      simp
  have hx : less a b < 2 ^ 63 := Nat.xor_lt_two_pow (by omega) (Nat.and_lt_two_pow _ (by omega))
  show IntKind.i64.wrap ((BitVec.ofInt 64 (a : Int) &&& ~~~BitVec.ofInt 64 (b : Int)).toNat : Int) = _
  rw [e, IntKind.wrap_i64]
  omega
theorem i64_and_one (x : Int) : bits .and .i64 x 1 = x % 2 := by
  have h : (BitVec.ofInt 64 x &&& BitVec.ofInt 64 1).toNat = (x % 2).toNat := by
    rw [BitVec.toNat_and, show (BitVec.ofInt 64 1).toNat = 1 from rfl, Nat.and_one_is_mod, BitVec.toNat_ofInt]
    omega
  show IntKind.i64.wrap ((BitVec.ofInt 64 x &&& BitVec.ofInt 64 1).toNat : Int) = _
  rw [h, IntKind.wrap_i64]
  omega
/-- '1 << k' for a small k -/
theorem i64_shl_one (k : Nat) (hk : k ≤ 62) : IntKind.i64.wrap (1 * 2 ^ k) = ((2 ^ k : Nat) : Int) := by
  have h1 : 2 ^ k ≤ 2 ^ 62 := Nat.pow_le_pow_right (by decide) hk
  have h2 : ((2 : Int) ^ k) = ((2 ^ k : Nat) : Int) := by simp
  rw [Int.one_mul, h2, IntKind.wrap_i64]
  rw [show (2 : Nat) ^ 62 = 4611686018427387904 from by decide] at h1
  generalize 2 ^ k = p at *
  omega
theorem testBit_iff (n k : Nat) : n.testBit k = decide ((n : Int) / 2 ^ k % 2 = 1) := by
  rw [Nat.testBit_eq_decide_div_mod_eq]
  have h : ((n : Int) / 2 ^ k % 2) = ((n / 2 ^ k % 2 : Nat) : Int) := by simp
  rw [h]
  congr 1
  apply propext
  omega
/-- 'S>>d&1 == 1' as the walk has it -/
theorem bit_test (S d : Nat) : (bits BinOp.and IntKind.i64 ((S : Int) / 2 ^ d) 1 == 1) = S.testBit d := by
  rw [i64_and_one, testBit_iff, Bool.eq_iff_iff]
  simp
theorem wrap64_nat (n : Nat) (h : n < 9223372036854775808) : wrap64 (n : Int) = n := IntWalk.wrap64_in _ (by omega)
/-- 'S + 1<<d' -/
theorem add_shl (S d : Nat) (hS : S < 4611686018427387904) (hd : d ≤ 61) : wrap64 ((S : Int) + wrap64 (2 ^ d)) = ((S + 2 ^ d : Nat) : Int) := by
  have h1 : 2 ^ d ≤ 2 ^ 61 := Nat.pow_le_pow_right (by decide) hd
  rw [show (2 : Nat) ^ 61 = 2305843009213693952 from by decide] at h1
  have h2 : ((2 : Int) ^ d) = ((2 ^ d : Nat) : Int) := by simp
  rw [h2]
  generalize 2 ^ d = p at *
  rw [wrap64_nat _ (by omega), ← Int.natCast_add, wrap64_nat _ (by omega)]
/-- a new greatest element -/
theorem testBit_add_top (S d m : Nat) (h : S < 2 ^ d) : (S + 2 ^ d).testBit m = (S.testBit m || decide (d = m)) := by
  have := Nat.two_pow_add_eq_or_of_lt h 1
  rw [Nat.mul_one] at this
  rw [Nat.add_comm, this, Nat.testBit_or, Nat.testBit_two_pow, Bool.or_comm]
theorem lt_of_testBit {S d : Nat} (h : ∀ m, d ≤ m → S.testBit m = false) : S < 2 ^ d := Nat.lt_pow_two_of_testBit S fun m hm => h m hm
end Go.Proofs.Ytajeledbmnndmaa

namespace Go.Proofs.Ytajeledbmnndmaa
open Go.RowKit Go.Sort

/-- digit number b of x -/
def bitI (x : Int) (b : Nat) : Bool := decide (x / 2 ^ b % 2 = 1)
theorem bit_walk (x : Int) (b : Nat) : (bits BinOp.and IntKind.i64 (x / 2 ^ b) 1 == 1) = bitI x b := by
  rw [i64_and_one, bitI, Bool.eq_iff_iff]; simp
set_option maxHeartbeats 400000 in
theorem has_any (s : Int) (sl : Value) (a : Int) (w : World) (hs : -1000 ≤ s ∧ s ≤ 1000) :
    Calls Try.prog 81 #[.agg #[.int .i64 s, sl], .int .i64 a] w fun e w' => e = .returned (.bool (inB a 0 (s - 1))) ∧ Below w.heap.size w w' := by
  go_enter Try.func81, Try.ntmps81
  go_wp2_with (go_at_call 86; refine (within_any _ _ _ _).mono ?_; rintro e w1 ⟨rfl, rfl⟩)
  go_ret
  exact ⟨rfl, below_alloc1 _ _⟩
set_option maxHeartbeats 400000 in
theorem beats_any (s : Int) (sl : Value) (xs : List Int) (a b : Int) (w : World) (h : Rd w sl xs) (ha : 0 ≤ a) (ha2 : a < xs.length) (hb : 0 ≤ b) (hb2 : b ≤ 63) :
    Calls Try.prog 92 #[.agg #[.int .i64 s, sl], .int .i64 a, .int .i64 b] w fun e w' => e = .returned (.bool (bitI (xs.getD a.toNat 0) b.toNat)) ∧ Below w.heap.size w w' := by
  obtain ⟨A, c, rfl, hl1, hm1, hc1⟩ := h
  unfold maxLen at hm1
  obtain ⟨a, rfl⟩ := Int.eq_ofNat_of_zero_le ha
  obtain ⟨b, rfl⟩ := Int.eq_ofNat_of_zero_le hb
  obtain ⟨g, off, rfl, hg, hx⟩ := hc1 (by omega)
  have hxa := hx a (by omega)
  have hxa' : (w.alloc (.cells #[.int .i64 s, .slice (some ⟨g, off, none⟩) xs.length c] 28)).cell? ⟨g, off + a, none⟩ = some (.int .i64 (xs.getD a 0)) := by
    rw [World.cell?_alloc_lt _ _ _ (by exact hg)]; exact hxa
  generalize hn : xs.length = n at *
  have HN := Lib.hid hn
  clear hx hxa hn
  go_enter Try.func92, Try.ntmps92
  go_wp2
  go_ret
  refine ⟨ret_bool ?_, below_alloc1 _ _⟩
  rw [bit_walk]
  simp
set_option maxHeartbeats 400000 in
theorem l02Beats_any (s : Int) (sl : Value) (xs : List Int) (a b : Int) (w : World) (h : Rd w sl xs) (ha : 0 ≤ a) (ha2 : a < xs.length) (hb : 0 ≤ b) (hb2 : b ≤ 63) :
    Calls Try.prog 117 #[.agg #[.int .i64 s, sl], .int .i64 a, .int .i64 b] w fun e w' => e = .returned (.bool (bitI (xs.getD a.toNat 0) b.toNat)) ∧ Below w.heap.size w w' := by
  obtain ⟨A, c, rfl, hl1, hm1, hc1⟩ := h
  unfold maxLen at hm1
  obtain ⟨a, rfl⟩ := Int.eq_ofNat_of_zero_le ha
  obtain ⟨b, rfl⟩ := Int.eq_ofNat_of_zero_le hb
  obtain ⟨g, off, rfl, hg, hx⟩ := hc1 (by omega)
  have hxa := hx a (by omega)
  have hxa' : (w.alloc (.cells #[.int .i64 s, .slice (some ⟨g, off, none⟩) xs.length c] 28)).cell? ⟨g, off + a, none⟩ = some (.int .i64 (xs.getD a 0)) := by
    rw [World.cell?_alloc_lt _ _ _ (by exact hg)]; exact hxa
  generalize hn : xs.length = n at *
  have HN := Lib.hid hn
  clear hx hxa hn
  go_enter Try.func117, Try.ntmps117
  go_wp2
  go_ret
  refine ⟨ret_bool ?_, below_alloc1 _ _⟩
  rw [bit_walk]
  simp
end Go.Proofs.Ytajeledbmnndmaa

namespace Go.Proofs.Ytajeledbmnndmaa
open Go.RowKit Go.Sort

/-- what is asked of player a: no win over itself; against each b before it just one of the two wins -/
def okAt (xs : List Int) (a : Nat) : Prop := bitI (xs.getD a 0) a = false ∧ ∀ b, b < a → bitI (xs.getD a 0) b ≠ bitI (xs.getD b 0) a
def tourP (s : Int) (xs : List Int) : Prop := (1 ≤ s ∧ s ≤ 8) ∧ (xs.length : Int) = s ∧ (∀ x ∈ xs, 0 ≤ x ∧ x ≤ 2 ^ s.toNat - 1) ∧ ∀ a, a < xs.length → okAt xs a
noncomputable def tourB (s : Int) (xs : List Int) : Bool := @decide (tourP s xs) (Classical.propDecidable _)
theorem tourB_true {s : Int} {xs : List Int} : tourB s xs = true ↔ tourP s xs := by unfold tourB; simp
theorem tourB_false {s : Int} {xs : List Int} : tourB s xs = false ↔ ¬ tourP s xs := by rw [← tourB_true]; simp

theorem shl_i64 (s : Int) (h : 0 ≤ s ∧ s ≤ 61) : IntKind.i64.wrap (1 * 2 ^ s.toNat) = 2 ^ s.toNat := by
  rw [i64_shl_one _ (by omega)]; simp
theorem pow_small (s : Int) (h : 0 ≤ s ∧ s ≤ 8) : (1 : Int) ≤ 2 ^ s.toNat ∧ (2 : Int) ^ s.toNat ≤ 256 := by
  have h1 : 2 ^ s.toNat ≤ 2 ^ 8 := Nat.pow_le_pow_right (by decide) (by omega)
  have h2 : 0 < 2 ^ s.toNat := Nat.two_pow_pos _
  have h3 : ((2 : Int) ^ s.toNat) = ((2 ^ s.toNat : Nat) : Int) := by simp
  rw [h3]
  rw [show (2 : Nat) ^ 8 = 256 from rfl] at h1
  omega

theorem ok_hi (n : Nat) (h : n ≤ 8) : wrap64 (wrap64 (2 ^ n) - 1) = 2 ^ n - 1 := by
  have h1 : 2 ^ n ≤ 2 ^ 8 := Nat.pow_le_pow_right (by decide) h
  have h3 : ((2 : Int) ^ n) = ((2 ^ n : Nat) : Int) := by simp
  rw [h3]
  rw [show (2 : Nat) ^ 8 = 256 from rfl] at h1
  have h2 : 0 < 2 ^ n := Nat.two_pow_pos _
  generalize 2 ^ n = p at *
  rw [IntWalk.wrap64_in (p : Int) (by omega), IntWalk.wrap64_in _ (by omega)]
set_option maxHeartbeats 2000000 in
theorem implTourOk (s : Int) (sl : Value) (xs : List Int) (w : World) (h : Rd w sl xs) :
    Calls Try.prog 72 #[.agg #[.int .i64 s, sl]] w fun e w' => e = .returned (.bool (tourB s xs)) ∧ Below w.heap.size w w' := by
  have HR := Lib.hid h
  obtain ⟨A, c, rfl, hl1, hm1, hc1⟩ := h
  clear hc1
  unfold maxLen at hm1
  rcases hS : inB s 1 8 with _ | _
  · go_enter Try.func72, Try.ntmps72
    go_wp2_with fail
    have b0 := below_alloc1 w (.cells #[.int .i64 s, .slice A xs.length c] 28)
    have x0 := TBox.new w s (.slice A xs.length c) 28
    generalize w.alloc (.cells #[.int .i64 s, .slice A xs.length c] 28) = W at *
    have k1 := quiet_below (w := W) (fun W _ => of_same (within_any s 1 8 W))
    have y0 := cell_regrown x0.1
    have y1 := cell_regrown x0.2
    have HB := Lib.hid b0
    clear x0 b0
    refine wp_region_below (by kernel_rfl) (by kernel_rfl) ?_
    repeat (go_big_quiet_step (first | (with_reducible exact k1 _ _)))
    refine wpQuiet_nil ?_
    intro w1 hb1
    have HB1 := Lib.hid (Below.then HB.out hb1)
    clear hb1 k1 y0 y1 HB
    go_wp2
    go_ret
    refine ⟨ret_bool (tourB_false.2 fun hp => ?_).symm, HB1.out⟩
    have := inB_false.1 hS
    exact this hp.1
  · have hs := inB_true.1 hS
    generalize hn : xs.length = n at *
    have HN := Lib.hid hn
    clear hn
    by_cases hl : (n : Int) = s
    · subst hl
      have hne : ((n : Int) != (n : Int)) = false := by simp
      have HV := Lib.hid (ok_hi n (by omega))
      rcases hA : allB xs 0 (wrap64 (wrap64 (2 ^ n) - 1)) with _ | _
      all_goals
        go_enter Try.func72, Try.ntmps72
        go_wp2_with fail
        have b0 := below_alloc1 w (.cells #[.int .i64 n, .slice A n c] 28)
        have x0 := TBox.new w n (.slice A n c) 28
        generalize w.alloc (.cells #[.int .i64 n, .slice A n c] 28) = W at *
        have k1 := quiet_below (w := W) (fun W _ => of_same (within_any n 1 8 W))
        rw [hS] at k1
        have k2 := quiet_below (w := W) (fun W' hb => allWithin_any (.slice A n c) xs 0 (wrap64 (wrap64 (2 ^ n) - 1)) W' ((HR.out.below b0).below hb))
        rw [hA] at k2
        have y0 := cell_regrown x0.1
        have y1 := cell_regrown x0.2
        have HB := Lib.hid b0
        have HX := Lib.hid x0
        clear x0 b0
        refine wp_region_below (by kernel_rfl) (by kernel_rfl) ?_
        repeat (go_big_quiet_step (first | (with_reducible exact k1 _ _) | (with_reducible exact k2 _ _)))
        refine wpQuiet_nil ?_
        intro w1 hb1
        have HX1 := Lib.hid (HX.out.below hb1)
        have HB1 := Lib.hid (Below.then HB.out hb1)
        clear hb1 k1 y0 y1 HB k2 HX
        have y0 := HX1.out.1
        have y1 := HX1.out.2
      · go_wp2
        go_ret
        refine ⟨ret_bool (tourB_false.2 fun hp => ?_).symm, HB1.out⟩
        rw [HV.out] at hA
        have := hp.2.2.1
        simp [allB] at hA
        obtain ⟨x, hx, hb⟩ := hA
        exact inB_false.1 hb (this x hx)
      · go_wp2
        have HA : Hid (∀ x ∈ xs, 0 ≤ x ∧ x ≤ 2 ^ n - 1) := by
          rw [HV.out] at hA
          simp [allB] at hA
          exact fun x hx => inB_true.1 (hA x hx)
        clear hA
        go_loopw [29] (fun i wr => ∃ a : Nat, a ≤ n ∧ i = .int .i64 a ∧ TBox wr w.heap.size n (.slice A n c) ∧ Below w.heap.size w wr ∧ Hid (∀ a', a' < a → okAt xs a')) (fun i _ => n - (intOf i).toNat)
        case atStart => exact ⟨0, Nat.zero_le _, rfl, HX1.out, HB1.out, fun a h => absurd h (by omega)⟩
        case round =>
          obtain ⟨a, ha, rfl, hx, hb, HP⟩ := hrel
          have HX := Lib.hid hx
          have HB := Lib.hid hb
          clear hx hb y0 y1 HX1 HB1
          by_cases hlt : a < n
          · go_wp2
            obtain ⟨wo, rfl⟩ : ∃ wo : World, wo = wr := ⟨_, rfl⟩
            go_loopw [33] (fun i wr => ∃ b : Nat, b ≤ a ∧ i = .int .i64 b ∧ TBox wr w.heap.size n (.slice A n c) ∧ Below w.heap.size w wr ∧ Hid (∀ b', b' < b → bitI (xs.getD a 0) b' ≠ bitI (xs.getD b' 0) a)) (fun i _ => a - (intOf i).toNat)
            case atStart => exact ⟨0, Nat.zero_le _, rfl, HX.out, HB.out, fun b h => absurd h (by omega)⟩
            case round =>
              obtain ⟨b, hb, rfl, hx, hbb, HQ⟩ := hrel
              have HX' := Lib.hid hx
              have HB' := Lib.hid hbb
              clear hx hbb HX HB
              by_cases hltb : b < a
              · go_wp2
                have y0 := cell_regrown HX'.out.1
                have y1 := cell_regrown HX'.out.2
                have kab : ∀ d os, Calls Try.prog 92 #[.agg #[.int .i64 n, .slice A n c], .int .i64 a, .int .i64 b] (grow (redrawn wr d) os) fun e w'' => e = .returned (.bool (bitI (xs.getD a 0) b)) ∧ ∃ p : Regrown, w'' = grow (redrawn wr p.d) p.os :=
                  quiet_below (fun W hW => beats_any n _ xs a b W ((HR.out.below HB'.out).below hW) (by omega) (by rw [HN.out]; omega) (by omega) (by omega))
                have kba : ∀ d os, Calls Try.prog 92 #[.agg #[.int .i64 n, .slice A n c], .int .i64 b, .int .i64 a] (grow (redrawn wr d) os) fun e w'' => e = .returned (.bool (bitI (xs.getD b 0) a)) ∧ ∃ p : Regrown, w'' = grow (redrawn wr p.d) p.os :=
                  quiet_below (fun W hW => beats_any n _ xs b a W ((HR.out.below HB'.out).below hW) (by omega) (by rw [HN.out]; omega) (by omega) (by omega))
                refine wp_region_below (by kernel_rfl) (by kernel_rfl) ?_
                repeat (go_big_quiet_step (first | (with_reducible exact kab _ _) | (with_reducible exact kba _ _)))
                refine wpQuiet_nil ?_
                intro w2 hb2
                have HX2 := Lib.hid (HX'.out.below hb2)
                have HB2 := Lib.hid (Below.then HB'.out hb2)
                clear hb2 y0 y1 kab kba HX' HB'
                go_wp2
                · have hq : (bitI (xs[a]?.getD 0) b == bitI (xs[b]?.getD 0) a) = true := by assumption
                  go_ret
                  refine ⟨ret_bool (tourB_false.2 fun hp => ?_).symm, HB2.out⟩
                  have := (hp.2.2.2 a (by rw [HN.out]; exact hlt)).2 b hltb
                  simp at hq this
                  exact this hq
                · have hq : (bitI (xs[a]?.getD 0) b == bitI (xs[b]?.getD 0) a) = false := by assumption
                  go_roundw
                  case rel =>
                    refine ⟨b + 1, by omega, by go_num, HX2.out, HB2.out, fun b' hb' => ?_⟩
                    by_cases h : b' < b
                    · exact HQ.out b' h
                    · obtain rfl : b' = b := by omega
                      simpa using hq
                  case measure => simp [intOf]; omega
              · have hge : ¬ ((b : Int) < (a : Int)) := by omega
                have y0 := HX'.out.1
                have y1 := HX'.out.2
                have kaa : ∀ W, Below wr.heap.size wr W → Calls Try.prog 92 #[.agg #[.int .i64 n, .slice A n c], .int .i64 a, .int .i64 a] W fun e w'' => e = .returned (.bool (bitI (xs.getD a 0) a)) ∧ Below W.heap.size W w'' :=
                  fun W hW => beats_any n _ xs a a W ((HR.out.below HB'.out).below hW) (by omega) (by rw [HN.out]; omega) (by omega) (by omega)
                have KAA := Lib.hid (kaa _ (Below.refl _ _))
                clear kaa
                go_wp2_with (go_at_call 92; refine KAA.out.mono ?_; rintro e w2 ⟨rfl, hb2⟩; have HX2 := Lib.hid (HX'.out.below hb2); have HB2 := Lib.hid (Below.then HB'.out hb2); clear hb2)
                · have hq : bitI (xs[a]?.getD 0) a = true := by assumption
                  go_ret
                  refine ⟨ret_bool (tourB_false.2 fun hp => ?_).symm, HB2.out⟩
                  have := (hp.2.2.2 a (by rw [HN.out]; exact hlt)).1
                  simp [hq] at this
                · have hq : bitI (xs[a]?.getD 0) a = false := by assumption
                  go_roundw
                  case rel =>
                    refine ⟨a + 1, by omega, by go_num, HX2.out, HB2.out, fun a' ha' => ?_⟩
                    by_cases h : a' < a
                    · exact HP.out a' h
                    · obtain rfl : a' = a := by omega
                      exact ⟨by simpa using hq, fun b' hb' => HQ.out b' (by omega)⟩
                  case measure => simp [intOf]; omega
          · obtain rfl : a = n := by omega
            go_wp2
            go_ret
            refine ⟨ret_bool (tourB_true.2 ⟨hs, by rw [HN.out], HA.out, by rw [HN.out]; exact HP.out⟩).symm, HB.out⟩
    · have hne : ((n : Int) != s) = true := by simpa using hl
      have HL := Lib.hid hl
      clear hl
      go_enter Try.func72, Try.ntmps72
      go_wp2_with fail
      have b0 := below_alloc1 w (.cells #[.int .i64 s, .slice A n c] 28)
      have x0 := TBox.new w s (.slice A n c) 28
      generalize w.alloc (.cells #[.int .i64 s, .slice A n c] 28) = W at *
      have k1 := quiet_below (w := W) (fun W _ => of_same (within_any s 1 8 W))
      have y0 := cell_regrown x0.1
      have y1 := cell_regrown x0.2
      have HB := Lib.hid b0
      clear x0 b0
      refine wp_region_below (by kernel_rfl) (by kernel_rfl) ?_
      repeat (go_big_quiet_step (first | (with_reducible exact k1 _ _)))
      refine wpQuiet_nil ?_
      intro w1 hb1
      have HB1 := Lib.hid (Below.then HB.out hb1)
      clear hb1 k1 y0 y1 HB
      go_wp2
      go_ret
      refine ⟨ret_bool (tourB_false.2 fun hp => ?_).symm, HB1.out⟩
      exact HL.out (by rw [← hp.2.1, HN.out])
end Go.Proofs.Ytajeledbmnndmaa

namespace Go.Proofs.Ytajeledbmnndmaa
open Go.RowKit Go.Sort

theorem bit_eq_walk (x y : Int) (b a : Nat) : (bits BinOp.and IntKind.i64 (x / 2 ^ b) 1 == bits BinOp.and IntKind.i64 (y / 2 ^ a) 1) = (bitI x b == bitI y a) := by
  rw [i64_and_one, i64_and_one, bitI, bitI, Bool.eq_iff_iff]
  simp only [beq_iff_eq, decide_eq_decide]
  omega

set_option maxHeartbeats 2000000 in
theorem specTourOk (s : Int) (sl : Value) (xs : List Int) (w : World) (h : Rd w sl xs) :
    Calls Try.prog 65 #[.agg #[.int .i64 s, sl]] w fun e w' => e = .returned (.bool (tourB s xs)) ∧ Below w.heap.size w w' := by
  have HR := Lib.hid h
  obtain ⟨A, c, rfl, hl1, hm1, hc1⟩ := h
  unfold maxLen at hm1
  have H3 := Lib.hid hc1
  clear hc1
  generalize hn : xs.length = n at *
  have HN := Lib.hid hn
  clear hn
  rcases hS : inB s 1 8 with _ | _
  · go_enter Try.func65, Try.ntmps65
    go_wp2_with (go_at_call 116; refine (l01In_any _ _ _ _).mono ?_; rintro e w1 ⟨rfl, rfl⟩)
    go_ret
    exact ⟨ret_bool (tourB_false.2 fun hp => inB_false.1 hS hp.1).symm, below_alloc1 _ _⟩
  · have hs := inB_true.1 hS
    by_cases hl : (n : Int) = s
    · subst hl
      have hne : ((n : Int) != (n : Int)) = false := by simp
      have HV := Lib.hid (ok_hi n (by omega))
      go_enter Try.func65, Try.ntmps65
      go_wp2_with (go_at_call 116; refine (l01In_any _ _ _ _).mono ?_; rintro e w1 ⟨rfl, rfl⟩)
      have b0 := below_alloc1 w (.cells #[.int .i64 n, .slice A n c] 28)
      have x0 := TBox.new w n (.slice A n c) 28
      generalize w.alloc (.cells #[.int .i64 n, .slice A n c] 28) = W at *
      have HX := Lib.hid x0
      have HB := Lib.hid b0
      clear x0 b0
      go_loopw [21] (fun i wr => ∃ (a q : Nat), a ≤ n ∧ i = .int .i64 a ∧ wr = W.drewN q ∧ Hid ((∀ a', a' < a → okAt xs a') ∧ ∀ a', a' < a → 0 ≤ xs.getD a' 0 ∧ xs.getD a' 0 ≤ 2 ^ n - 1)) (fun i _ => n - (intOf i).toNat)
      case atStart => exact ⟨0, 0, Nat.zero_le _, rfl, rfl, fun a h => absurd h (by omega), fun a h => absurd h (by omega)⟩
      case round =>
        obtain ⟨a, q, ha, rfl, rfl, HP⟩ := hrel
        by_cases hlt : a < n
        · obtain ⟨g, off, rfl, hg, hx⟩ := H3.out (by omega)
          have hx' : ∀ k, k < n → W.cell? ⟨g, off + k, none⟩ = some (.int .i64 (xs.getD k 0)) := fun k hk => (HB.out.cell (by exact hg)).trans (hx k hk)
          have hxa := hx' a hlt
          have HC := Lib.hid hx'
          clear hx hx'
          have y0 := HX.out.1
          have y1 := HX.out.2
          rcases hA : inB (xs[a]?.getD 0) 0 (wrap64 (wrap64 (2 ^ n) - 1)) with _ | _
          · go_wp2_with (go_at_call 116; refine (l01In_any _ _ _ _).mono ?_; rintro e w1 ⟨rfl, rfl⟩)
            go_ret
            refine ⟨ret_bool (tourB_false.2 fun hp => ?_).symm, below_drewN HB.out _⟩
            rw [HV.out] at hA
            refine inB_false.1 hA (hp.2.2.1 _ ?_)
            rw [List.getElem?_eq_getElem (by rw [HN.out]; exact hlt)]; exact List.getElem_mem _
          · rcases hB : bitI (xs[a]?.getD 0) a with _ | _
            · have hB' : (bits BinOp.and IntKind.i64 (xs[a]?.getD 0 / 2 ^ a) 1 == 1) = false := by rw [bit_walk]; exact hB
              go_wp2_with (go_at_call 116; refine (l01In_any _ _ _ _).mono ?_; rintro e w1 ⟨rfl, rfl⟩)
              go_loopw [5] (fun i wr => ∃ (b q : Nat), b ≤ a ∧ i = .int .i64 b ∧ wr = W.drewN q ∧ Hid (∀ b', b' < b → bitI (xs.getD a 0) b' ≠ bitI (xs.getD b' 0) a)) (fun i _ => a - (intOf i).toNat)
              case atStart => exact ⟨0, q, Nat.zero_le _, rfl, rfl, fun b h => absurd h (by omega)⟩
              case round =>
                obtain ⟨b, q', hb, rfl, rfl, HQ⟩ := hrel
                by_cases hltb : b < a
                · have hxb := HC.out b (by omega)
                  rcases hE : (bits BinOp.and IntKind.i64 (xs[a]?.getD 0 / 2 ^ b) 1 == bits BinOp.and IntKind.i64 (xs[b]?.getD 0 / 2 ^ a) 1) with _ | _
                  all_goals
                    go_wp2
                    go_quiet (fail)
                    go_wp2
                  · go_roundw
                    case rel =>
                      refine ⟨b + 1, _, by omega, by go_num, rfl, fun b' hb' => ?_⟩
                      by_cases h : b' < b
                      · exact HQ.out b' h
                      · obtain rfl : b' = b := by omega
                        rw [bit_eq_walk] at hE
                        simpa using hE
                    case measure => simp [intOf]; omega
                  · go_ret
                    refine ⟨ret_bool (tourB_false.2 fun hp => ?_).symm, below_drewN (below_drewN HB.out _) _⟩
                    have := (hp.2.2.2 a (by rw [HN.out]; exact hlt)).2 b hltb
                    rw [bit_eq_walk] at hE
                    simp at hE this
                    exact this hE
                · have hge : ¬ ((b : Int) < (a : Int)) := by omega
                  go_wp2
                  go_roundw
                  case rel =>
                    refine ⟨a + 1, _, by omega, by go_num, rfl, fun a' ha' => ?_, fun a' ha' => ?_⟩
                    · by_cases h : a' < a
                      · exact HP.out.1 a' h
                      · obtain rfl : a' = a := by omega
                        exact ⟨by simpa using hB, fun b' hb' => HQ.out b' (by omega)⟩
                    · by_cases h : a' < a
                      · exact HP.out.2 a' h
                      · obtain rfl : a' = a := by omega
                        rw [HV.out] at hA
                        simpa using inB_true.1 hA
                  case measure => simp [intOf]; omega
            · have hB' : (bits BinOp.and IntKind.i64 (xs[a]?.getD 0 / 2 ^ a) 1 == 1) = true := by rw [bit_walk]; exact hB
              go_wp2_with (go_at_call 116; refine (l01In_any _ _ _ _).mono ?_; rintro e w1 ⟨rfl, rfl⟩)
              go_ret
              refine ⟨ret_bool (tourB_false.2 fun hp => ?_).symm, below_drewN HB.out _⟩
              have := (hp.2.2.2 a (by rw [HN.out]; exact hlt)).1
              simp [hB] at this
        · obtain rfl : a = n := by omega
          go_wp2
          go_ret
          refine ⟨ret_bool (tourB_true.2 ⟨hs, by rw [HN.out], fun x hx => ?_, by rw [HN.out]; exact HP.out.1⟩).symm, below_drewN HB.out _⟩
          obtain ⟨k, hk, rfl⟩ := List.mem_iff_getElem.1 hx
          have := HP.out.2 k (by rw [← HN.out]; exact hk)
          simpa [hk] using this
    · have hne : ((n : Int) != s) = true := by simpa using hl
      have HL := Lib.hid hl
      clear hl
      go_enter Try.func65, Try.ntmps65
      go_wp2_with (go_at_call 116; refine (l01In_any _ _ _ _).mono ?_; rintro e w1 ⟨rfl, rfl⟩)
      go_ret
      exact ⟨ret_bool (tourB_false.2 fun hp => HL.out (by rw [← hp.2.1, HN.out])).symm, below_alloc1 _ _⟩
end Go.Proofs.Ytajeledbmnndmaa

namespace Go.Proofs.Ytajeledbmnndmaa
open Go.RowKit

/-- the set of the numbers below k with p -/
def setOf (p : Nat → Bool) : Nat → Nat
  | 0 => 0
  | k + 1 => setOf p k + if p k then 2 ^ k else 0
theorem setOf_lt (p : Nat → Bool) (k : Nat) : setOf p k < 2 ^ k := by
  induction k with
  | zero => simp [setOf]
  | succ k ih =>
    have := Nat.pow_succ (n := 2) (m := k)
    simp only [setOf]
    split <;> omega
theorem testBit_setOf (p : Nat → Bool) (k j : Nat) : (setOf p k).testBit j = (decide (j < k) && p j) := by
  induction k with
  | zero => simp [setOf]
  | succ k ih =>
    simp only [setOf]
    rcases h : p k with _ | _
    · simp only [Bool.false_eq_true, if_false, Nat.add_zero, ih]
      by_cases e : j = k
      · subst e; simp [h]
      · have : decide (j < k + 1) = decide (j < k) := by rw [decide_eq_decide]; omega
        rw [this]
    · simp only [if_true]
      rw [testBit_add_top _ _ _ (setOf_lt p k), ih]
      by_cases e : j = k
      · subst e; simp [h]
      · have : decide (j < k + 1) = decide (j < k) := by rw [decide_eq_decide]; omega
        rw [this]
        have : decide (k = j) = false := by simp; omega
        rw [this, Bool.or_false]
theorem setOf_eq {S k : Nat} {p : Nat → Bool} (h : ∀ j, S.testBit j = (decide (j < k) && p j)) : S = setOf p k := Nat.eq_of_testBit_eq fun j => by rw [h, testBit_setOf]
theorem setOf_congr {k : Nat} {p q : Nat → Bool} (h : ∀ j, j < k → p j = q j) : setOf p k = setOf q k := setOf_eq fun j => by
  rw [testBit_setOf]
  by_cases e : j < k
  · simp [h j e]
  · simp [e]
theorem testBit_full (n j : Nat) : (2 ^ n - 1).testBit j = decide (j < n) := Nat.testBit_two_pow_sub_one n j
theorem setOf_full {n : Nat} {p : Nat → Bool} (h : ∀ j, j < n → p j = true) : 2 ^ n - 1 = setOf p n := setOf_eq fun j => by
  rw [testBit_full]
  by_cases e : j < n
  · simp [e, h j e]
  · simp [e]
theorem pow_le {n : Nat} (h : n ≤ 8) : 2 ^ n ≤ 256 := Nat.le_trans (Nat.pow_le_pow_right (by decide) h) (by decide)
theorem setOf_small (p : Nat → Bool) {k : Nat} (h : k ≤ 8) : setOf p k < 256 := Nat.lt_of_lt_of_le (setOf_lt p k) (pow_le h)
theorem nodup_le : ∀ (n : Nat) (ys : List Int), ys.Nodup → (∀ y ∈ ys, 0 ≤ y ∧ y < n) → ys.length ≤ n := by
  intro n
  induction n with
  | zero =>
    intro ys _ h
    cases ys with
    | nil => simp
    | cons a l => have := h a (by simp); omega
  | succ n ih =>
    intro ys hn h
    have h1 := ih (ys.erase (n : Int)) (hn.erase _) (fun y hy => by
      have := (hn.mem_erase_iff).1 hy
      have h2 := h y this.2
      omega)
    by_cases hm : (n : Int) ∈ ys
    · rw [List.length_erase_of_mem hm] at h1; omega
    · rw [List.erase_of_not_mem hm] at h1; omega
theorem add_or {S a : Nat} (hS : S < 2 ^ 62) (ha : a ≤ 61) (h : S.testBit a = false) : S + 2 ^ a = S ||| 2 ^ a := by
  have hp : 2 ^ a ≤ 2 ^ 61 := Nat.pow_le_pow_right (by decide) ha
  have h1 : S < 2 ^ 64 := Nat.lt_trans hS (by decide)
  have h2 : 2 ^ a < 2 ^ 64 := Nat.lt_of_le_of_lt hp (by decide)
  have hb : (BitVec.ofNat 64 S) &&& (BitVec.ofNat 64 (2 ^ a)) = 0#64 := by
    apply BitVec.eq_of_toNat_eq
    rw [BitVec.toNat_and, BitVec.toNat_ofNat, BitVec.toNat_ofNat, Nat.mod_eq_of_lt h1, Nat.mod_eq_of_lt h2]
    apply Nat.eq_of_testBit_eq
    intro i
    rw [Nat.testBit_and, Nat.testBit_two_pow]
    by_cases e : a = i
    · subst e; simp [h]
    · simp [e]
  have := congrArg BitVec.toNat (BitVec.add_eq_or_of_and_eq_zero _ _ hb)
  rw [BitVec.toNat_add, BitVec.toNat_or, BitVec.toNat_ofNat, BitVec.toNat_ofNat, Nat.mod_eq_of_lt h1, Nat.mod_eq_of_lt h2, Nat.mod_eq_of_lt (by
    have e1 : (2 : Nat) ^ 62 = 4611686018427387904 := by decide
    have e2 : (2 : Nat) ^ 61 = 2305843009213693952 := by decide
    have e3 : (2 : Nat) ^ 64 = 18446744073709551616 := by decide
    omega)] at this
  exact this
/-- a new element -/
theorem testBit_add {S a : Nat} (hS : S < 2 ^ 62) (ha : a ≤ 61) (h : S.testBit a = false) (m : Nat) : (S + 2 ^ a).testBit m = (S.testBit m || decide (a = m)) := by
  rw [add_or hS ha h, Nat.testBit_or, Nat.testBit_two_pow]
theorem less_lt {S b n : Nat} (h : S < 2 ^ n) : less S b < 2 ^ n := lt_of_testBit fun m hm => by
  rw [testBit_less, Nat.testBit_lt_two_pow (Nat.lt_of_lt_of_le h (Nat.pow_le_pow_right (by decide) hm)), Bool.false_and]
/-- without an element -/
theorem sub_less {S a : Nat} (hS : S < 2 ^ 62) (ha : a ≤ 61) (h : S.testBit a = true) : S - 2 ^ a = less S (2 ^ a) := by
  have h1 := add_or (S := less S (2 ^ a)) (a := a) (less_lt hS) ha (by rw [testBit_less, Nat.testBit_two_pow]; simp)
  have h2 : less S (2 ^ a) ||| 2 ^ a = S := by
    apply Nat.eq_of_testBit_eq
    intro i
    rw [Nat.testBit_or, testBit_less, Nat.testBit_two_pow]
    by_cases e : a = i
    · subst e; simp [h]
    · simp [e]
  omega
theorem testBit_sub {S a : Nat} (hS : S < 2 ^ 62) (ha : a ≤ 61) (h : S.testBit a = true) (m : Nat) : (S - 2 ^ a).testBit m = (S.testBit m && !decide (a = m)) := by
  rw [sub_less hS ha h, testBit_less, Nat.testBit_two_pow]
theorem full_hi (n : Nat) (h : n ≤ 8) : wrap64 (wrap64 (2 ^ n) - 1) = 2 ^ n - 1 := by
  have h1 : 2 ^ n ≤ 2 ^ 8 := Nat.pow_le_pow_right (by decide) h
  have h3 : ((2 : Int) ^ n) = ((2 ^ n : Nat) : Int) := by simp
  rw [h3]
  rw [show (2 : Nat) ^ 8 = 256 from rfl] at h1
  have h2 : 0 < 2 ^ n := Nat.two_pow_pos _
  generalize 2 ^ n = p at *
  rw [IntWalk.wrap64_in (p : Int) (by omega), IntWalk.wrap64_in _ (by omega)]
theorem full_nat (n : Nat) (h : n ≤ 8) : wrap64 (wrap64 (2 ^ n) - 1) = ((2 ^ n - 1 : Nat) : Int) := by
  rw [full_hi n h, Int.natCast_sub Nat.one_le_two_pow]; simp
theorem shl_nat (a : Nat) (h : a ≤ 61) : wrap64 (2 ^ a) = ((2 ^ a : Nat) : Int) := by
  have h1 : 2 ^ a ≤ 2 ^ 61 := Nat.pow_le_pow_right (by decide) h
  rw [show (2 : Nat) ^ 61 = 2305843009213693952 from by decide] at h1
  have h2 : ((2 : Int) ^ a) = ((2 ^ a : Nat) : Int) := by simp
  rw [h2]
  generalize 2 ^ a = p at *
  rw [wrap64_nat _ (by omega)]
theorem pow_lt63 {a : Nat} (h : a ≤ 61) : 2 ^ a < 9223372036854775808 := by
  have h1 : 2 ^ a ≤ 2 ^ 61 := Nat.pow_le_pow_right (by decide) h
  rw [show (2 : Nat) ^ 61 = 2305843009213693952 from by decide] at h1
  omega
/-- 'S &^ (1<<a)' -/
theorem andNot_shl (S a : Nat) (hS : S < 4611686018427387904) (h : a ≤ 61) : bits .andNot .i64 (S : Int) (wrap64 (2 ^ a)) = ((less S (2 ^ a) : Nat) : Int) := by
  rw [shl_nat a h, i64_andNot_nat _ _ (by omega) (pow_lt63 h)]
/-- 'S | 1<<a' -/
theorem or_shl (S a : Nat) (hS : S < 4611686018427387904) (h : a ≤ 61) : bits .or .i64 (S : Int) (wrap64 (2 ^ a)) = ((S ||| 2 ^ a : Nat) : Int) := by
  rw [shl_nat a h, i64_or_nat _ _ (by omega) (pow_lt63 h)]
end Go.Proofs.Ytajeledbmnndmaa

namespace Go.Proofs.Ytajeledbmnndmaa
open Go.RowKit Go.Sort

/-- the number of binary digits 1 -/
def popN : Nat → Nat → Nat
  | 0, _ => 0
  | k + 1, n => n % 2 + popN k (n / 2)
theorem popN_zero (k : Nat) : popN k 0 = 0 := by
  induction k with
  | zero => rfl
  | succ k ih => simp [popN, ih]
theorem popN_le (k n : Nat) : popN k n ≤ k := by
  induction k generalizing n with
  | zero => simp [popN]
  | succ k ih =>
    have := ih (n / 2)
    simp only [popN]; omega
set_option maxHeartbeats 1000000 in
theorem l02Bits_any (x : Nat) (w : World) (h : x < 256) :
    Calls Try.prog 67 #[.int .i64 x] w fun e w' => e = .returned (.int .i64 (popN 8 x : Nat)) ∧ w = w' := by
  go_enter Try.func67, Try.ntmps67
  go_wp2
  go_loop [0, 3] (fun n t => ∃ j m k : Nat, j ≤ 8 ∧ n = .int .i64 m ∧ m < 2 ^ j ∧ t = .int .i64 k ∧ k ≤ 8 ∧ Hid (k + popN j m = popN 8 x)) (fun n _ => (intOf n).toNat)
  case atStart => exact ⟨8, x, 0, by omega, rfl, h, rfl, by omega, by simp [Hid]⟩
  case round =>
    obtain ⟨j, m, k, hj, rfl, hm, rfl, hk, HP⟩ := hrel
    by_cases h0 : 0 < m
    · obtain ⟨j, rfl⟩ : ∃ i, j = i + 1 := ⟨j - 1, by
        rcases j with _ | j
        · simp at hm; omega
        · omega⟩
      have hp := popN_le 8 x
      have hq : k + (m % 2 + popN j (m / 2)) = popN 8 x := HP.out
      clear HP
      have hand := i64_and_one (m : Int)
      have h2 : 2 ^ (j + 1) = 2 * 2 ^ j := by rw [Nat.pow_succ]; omega
      go_wp2
      go_round
      case rel => exact ⟨j, m / 2, k + m % 2, by omega, by first | go_num | (simp; omega), by omega, by first | go_num | (rw [hand]; go_num), by omega, by unfold Hid; omega⟩
      case measure => simp [intOf]; omega
    · obtain rfl : m = 0 := by omega
      have hq := HP.out
      rw [popN_zero] at hq
      go_wp2
      go_ret
      exact ⟨ret_int (by omega), rfl⟩
set_option maxHeartbeats 1000000 in
theorem ones64_any (x : Nat) (w : World) (h : x < 256) :
    Calls Try.prog 140 #[.int .u64 x] w fun e w' => e = .returned (.int .i64 (popN 8 x : Nat)) ∧ w = w' := by
  obtain ⟨n, rfl⟩ : ∃ n : Fin 256, n.val = x := ⟨⟨x, h⟩, rfl⟩
  go_enter Try.func140, Try.ntmps140
  go_wp2
  go_ret
  refine ⟨ret_int ?_, rfl⟩
  clear h
  revert n
  decide +kernel
set_option maxHeartbeats 400000 in
theorem ones_any (x : Nat) (w : World) (h : x < 256) :
    Calls Try.prog 111 #[.int .u64 x] w fun e w' => e = .returned (.int .i64 (popN 8 x : Nat)) ∧ w = w' := by
  go_enter Try.func111, Try.ntmps111
  go_wp2_with (go_at_call 140; refine (ones64_any _ _ h).mono ?_; rintro e w1 ⟨rfl, rfl⟩)
  go_ret
  exact ⟨rfl, rfl⟩
end Go.Proofs.Ytajeledbmnndmaa

namespace Go.Proofs.Ytajeledbmnndmaa
open Go.RowKit Go.Sort

noncomputable def beatB (s : Int) (xs : List Int) (a b : Int) : Bool := tourB s xs && inB a 0 (s - 1) && inB b 0 (s - 1) && bitI (xs.getD a.toNat 0) b.toNat

set_option maxHeartbeats 1000000 in
theorem implDoesBeat (s : Int) (sl : Value) (xs : List Int) (a b : Int) (w : World) (h : Rd w sl xs) :
    Calls Try.prog 36 #[.agg #[.int .i64 s, sl], .int .i64 a, .int .i64 b] w fun e w' => e = .returned (.bool (beatB s xs a b)) ∧ Below w.heap.size w w' := by
  have HR := Lib.hid h
  obtain ⟨A, c, rfl, -, -, -⟩ := h
  rcases hT : tourB s xs with _ | _
  · go_enter Try.func36, Try.ntmps36
    go_wp2_with fail
    have b0 := below_alloc1 w (.cells #[.int .i64 s, .slice A xs.length c] 28)
    have x0 := TBox.new w s (.slice A xs.length c) 28
    generalize w.alloc (.cells #[.int .i64 s, .slice A xs.length c] 28) = w0 at *
    have HX0 := Lib.hid x0
    have HB0 := Lib.hid b0
    clear x0 b0
    have y0_0 := HX0.out.1
    have y1_0 := HX0.out.2
    go_wp2_with fail
    refine (implTourOk s _ xs _ (HR.out.below HB0.out)).mono ?_
    rintro e w1 ⟨rfl, hb⟩
    have HX1 := Lib.hid (HX0.out.below hb)
    have HB1 := Lib.hid (Below.then HB0.out hb)
    clear hb HX0 HB0 y0_0 y1_0
    have y0_1 := HX1.out.1
    have y1_1 := HX1.out.2
    rw [hT]
    go_wp2
    go_ret
    exact ⟨ret_bool (by simp [beatB, hT]), HB1.out⟩
  · have hp := tourB_true.1 hT
    have hs := hp.1
    have hl := hp.2.1
    rcases hA : inB a 0 (s - 1) with _ | _
    · go_enter Try.func36, Try.ntmps36
      go_wp2_with fail
      have b0 := below_alloc1 w (.cells #[.int .i64 s, .slice A xs.length c] 28)
      have x0 := TBox.new w s (.slice A xs.length c) 28
      generalize w.alloc (.cells #[.int .i64 s, .slice A xs.length c] 28) = w0 at *
      have HX0 := Lib.hid x0
      have HB0 := Lib.hid b0
      clear x0 b0
      have y0_0 := HX0.out.1
      have y1_0 := HX0.out.2
      go_wp2_with fail
      refine (implTourOk s _ xs _ (HR.out.below HB0.out)).mono ?_
      rintro e w1 ⟨rfl, hb⟩
      have HX1 := Lib.hid (HX0.out.below hb)
      have HB1 := Lib.hid (Below.then HB0.out hb)
      clear hb HX0 HB0 y0_0 y1_0
      have y0_1 := HX1.out.1
      have y1_1 := HX1.out.2
      rw [hT]
      go_wp2_with fail
      refine (has_any s _ a _ (by omega)).mono ?_
      rintro e w2 ⟨rfl, hb⟩
      have HX2 := Lib.hid (HX1.out.below hb)
      have HB2 := Lib.hid (Below.then HB1.out hb)
      clear hb HX1 HB1 y0_1 y1_1
      have y0_2 := HX2.out.1
      have y1_2 := HX2.out.2
      rw [hA]
      go_wp2
      go_ret
      exact ⟨ret_bool (by simp [beatB, hA]), HB2.out⟩
    · have ha := inB_true.1 hA
      rcases hB : inB b 0 (s - 1) with _ | _
      · go_enter Try.func36, Try.ntmps36
        go_wp2_with fail
        have b0 := below_alloc1 w (.cells #[.int .i64 s, .slice A xs.length c] 28)
        have x0 := TBox.new w s (.slice A xs.length c) 28
        generalize w.alloc (.cells #[.int .i64 s, .slice A xs.length c] 28) = w0 at *
        have HX0 := Lib.hid x0
        have HB0 := Lib.hid b0
        clear x0 b0
        have y0_0 := HX0.out.1
        have y1_0 := HX0.out.2
        go_wp2_with fail
        refine (implTourOk s _ xs _ (HR.out.below HB0.out)).mono ?_
        rintro e w1 ⟨rfl, hb⟩
        have HX1 := Lib.hid (HX0.out.below hb)
        have HB1 := Lib.hid (Below.then HB0.out hb)
        clear hb HX0 HB0 y0_0 y1_0
        have y0_1 := HX1.out.1
        have y1_1 := HX1.out.2
        rw [hT]
        go_wp2_with fail
        refine (has_any s _ a _ (by omega)).mono ?_
        rintro e w2 ⟨rfl, hb⟩
        have HX2 := Lib.hid (HX1.out.below hb)
        have HB2 := Lib.hid (Below.then HB1.out hb)
        clear hb HX1 HB1 y0_1 y1_1
        have y0_2 := HX2.out.1
        have y1_2 := HX2.out.2
        rw [hA]
        go_wp2_with fail
        refine (has_any s _ b _ (by omega)).mono ?_
        rintro e w3 ⟨rfl, hb⟩
        have HX3 := Lib.hid (HX2.out.below hb)
        have HB3 := Lib.hid (Below.then HB2.out hb)
        clear hb HX2 HB2 y0_2 y1_2
        have y0_3 := HX3.out.1
        have y1_3 := HX3.out.2
        rw [hB]
        go_wp2
        go_ret
        exact ⟨ret_bool (by simp [beatB, hB]), HB3.out⟩
      · have hb' := inB_true.1 hB
        have HF : Hid (bitI (xs.getD a.toNat 0) b.toNat = beatB s xs a b) := by unfold Hid beatB; rw [hT, hA, hB]; rfl
        have HL := Lib.hid hl
        clear hp hl
        go_enter Try.func36, Try.ntmps36
        go_wp2_with fail
        have b0 := below_alloc1 w (.cells #[.int .i64 s, .slice A xs.length c] 28)
        have x0 := TBox.new w s (.slice A xs.length c) 28
        generalize w.alloc (.cells #[.int .i64 s, .slice A xs.length c] 28) = w0 at *
        have HX0 := Lib.hid x0
        have HB0 := Lib.hid b0
        clear x0 b0
        have y0_0 := HX0.out.1
        have y1_0 := HX0.out.2
        go_wp2_with fail
        refine (implTourOk s _ xs _ (HR.out.below HB0.out)).mono ?_
        rintro e w1 ⟨rfl, hb⟩
        have HX1 := Lib.hid (HX0.out.below hb)
        have HB1 := Lib.hid (Below.then HB0.out hb)
        clear hb HX0 HB0 y0_0 y1_0
        have y0_1 := HX1.out.1
        have y1_1 := HX1.out.2
        rw [hT]
        go_wp2_with fail
        refine (has_any s _ a _ (by omega)).mono ?_
        rintro e w2 ⟨rfl, hb⟩
        have HX2 := Lib.hid (HX1.out.below hb)
        have HB2 := Lib.hid (Below.then HB1.out hb)
        clear hb HX1 HB1 y0_1 y1_1
        have y0_2 := HX2.out.1
        have y1_2 := HX2.out.2
        rw [hA]
        go_wp2_with fail
        refine (has_any s _ b _ (by omega)).mono ?_
        rintro e w3 ⟨rfl, hb⟩
        have HX3 := Lib.hid (HX2.out.below hb)
        have HB3 := Lib.hid (Below.then HB2.out hb)
        clear hb HX2 HB2 y0_2 y1_2
        have y0_3 := HX3.out.1
        have y1_3 := HX3.out.2
        rw [hB]
        go_wp2_with fail
        refine (beats_any s _ xs a b _ (HR.out.below HB3.out) (by omega) (by have := HL.out; omega) (by omega) (by omega)).mono ?_
        rintro e w4 ⟨rfl, hb⟩
        have HX4 := Lib.hid (HX3.out.below hb)
        have HB4 := Lib.hid (Below.then HB3.out hb)
        clear hb HX3 HB3 y0_3 y1_3
        have y0_4 := HX4.out.1
        have y1_4 := HX4.out.2
        rw [HF.out]
        go_wp2
        go_ret
        exact ⟨rfl, HB4.out⟩
end Go.Proofs.Ytajeledbmnndmaa

namespace Go.Proofs.Ytajeledbmnndmaa
open Go.RowKit Go.Sort

/-- a player's wins as a natural number -/
def winsN (xs : List Int) (a : Nat) : Nat := (xs.getD a 0).toNat
theorem tour_wins {s : Int} {xs : List Int} (h : tourP s xs) {a : Nat} (ha : a < xs.length) : xs.getD a 0 = (winsN xs a : Int) ∧ winsN xs a < 2 ^ s.toNat ∧ winsN xs a < 256 := by
  have hm : xs.getD a 0 ∈ xs := by
    rw [List.getD_eq_getElem?_getD, List.getElem?_eq_getElem ha]; exact List.getElem_mem _
  have hx := h.2.2.1 _ hm
  have hp := pow_small s (by have := h.1; omega)
  have h2 : ((2 : Int) ^ s.toNat) = ((2 ^ s.toNat : Nat) : Int) := by simp
  unfold winsN
  rw [h2] at hp hx
  omega
noncomputable def scI (s : Int) (xs : List Int) (a : Int) : Int := if (tourB s xs && inB a 0 (s - 1)) = true then (popN 8 (winsN xs a.toNat) : Int) else -1
set_option maxHeartbeats 400000 in
theorem score_any (s : Int) (sl : Value) (xs : List Int) (a : Nat) (w : World) (h : Rd w sl xs) (hp : tourP s xs) (ha : a < xs.length) :
    Calls Try.prog 147 #[.agg #[.int .i64 s, sl], .int .i64 a] w fun e w' => e = .returned (.int .i64 (popN 8 (winsN xs a) : Nat)) ∧ Below w.heap.size w w' := by
  obtain ⟨A, c, rfl, -, hm, hc⟩ := h
  unfold maxLen at hm
  have hw := tour_wins hp ha
  have hl8 : xs.length ≤ 8 := by have := hp.1; have := hp.2.1; omega
  obtain ⟨g, off, rfl, hg, hx⟩ := hc (by omega)
  have hxa := hx a ha
  rw [hw.1] at hxa
  generalize winsN xs a = x at *
  have h256 := hw.2.2
  have X0 := TBox.new w s (.slice (some ⟨g, off, none⟩) xs.length c) 28
  have b0 := below_alloc1 w (.cells #[.int .i64 s, .slice (some ⟨g, off, none⟩) xs.length c] 28)
  have hxa' := (b0.cell (by exact hg)).trans hxa
  have B0 := Lib.hid b0
  have y1 := X0.2
  clear hx hxa hw b0 X0 hp hc
  go_enter Try.func147, Try.ntmps147
  go_wp2_with (go_at_call 111; refine (ones_any x _ h256).mono ?_; rintro e w1 ⟨rfl, rfl⟩)
  go_ret
  exact ⟨rfl, B0.out⟩
end Go.Proofs.Ytajeledbmnndmaa

namespace Go.Proofs.Ytajeledbmnndmaa
open Go.RowKit

theorem grown_of_alloc {w w' : World} {o : Obj} {row : Option Nat} (h : (w.alloc o).grownBy w' row) : w.grownBy w' row :=
  ⟨h.os, h.tape, h.output, Nat.le_trans (by simp) h.size, fun k hk hne => (h.block k (by simp; omega) hne).trans (Below.heap_alloc w o k hk)⟩

theorem wp_append1 {ops : Array Oper} {rest : List Oper} {o : Oper} {a : Act} {Q : Exit → Act → World → Prop} (w : World) (hgd : o.guard = none) (s x : Operand)
    (ho : o.op = .call { callee := .builtin .append, args := #[s, x], argTypes := #[22, 22] })
    (base : Nat) (v : Value) (xs : List Int) (y : Int) (hs : a.eval s = v) (hown : Own w base v xs) (hx : a.eval x = .slice (some ⟨w.heap.size, 0, none⟩) 1 1)
    (hlen : xs.length ≤ 1099511627776) (hbase : base ≤ w.heap.size)
    (h : ∀ v' w', Own w' base v' (xs ++ [y]) → w.grownBy w' v.ownBlock → wpList Try.prog ops Q rest (a.put o.dst v') w') :
    wpList Try.prog ops Q (o :: rest) a (w.alloc (.cells #[.int .i64 y] 3)) := by
  obtain ⟨i0, hi, hz0, hz1, hz2⟩ := info_parts i64_info
  have hown' : (w.alloc (.cells #[.int .i64 y] 3)).ownsRow base 3 1 v xs.length (xs.map (Value.int .i64)) := World.ownsRow.alloc hown _
  refine wpList_append_own _ hgd s x 22 ho base 3 i0 (.int .i64 0) 1 8 Try.underlying22 hi hz0 hz1 hz2 rfl (by decide) v xs.length (xs.map (Value.int .i64)) hs hown' ⟨w.heap.size, 0, none⟩ 1 1 [.int .i64 y] hx rfl ?_ ?_ ?_ ?_ ?_ ?_
  · intro j u hj
    match j, hj with
    | 0, hj => simp at hj; subst hj; simp [Addr.add]
  · intro u hu; simp at hu; subst hu; rfl
  · unfold maxLen; omega
  · omega
  · simp; omega
  · intro v' w' h1 h2 _
    refine h v' w' ?_ (grown_of_alloc h2)
    unfold Own
    rw [List.length_append, List.map_append]
    exact h1

theorem below_append {B : Nat} {a w w' : World} {base : Nat} {v : Value} {xs : List Int} (h : Below B a w) (hg : w.grownBy w' v.ownBlock) (hown : Own w base v xs) (hB : B ≤ base) (hbase : base ≤ w.heap.size) : Below B a w' :=
  h.grown hg (by omega) fun k hk => by have := (hown.lt k hk).1; omega
/-- a new block whose cells are these numbers -/
theorem Own.lit (w : World) (base : Nat) (xs : List Int) (hb : base ≤ w.heap.size) (hl : xs.length ≤ 1099511627776) : Own (w.alloc (.cells (xs.map (Value.int .i64)).toArray 3)) base (.slice (some ⟨w.heap.size, 0, none⟩) xs.length xs.length) xs := by
  have := World.ownsRow_lit (e := 3) (size := 1) w (xs.map (Value.int .i64)).toArray xs.length hb (by unfold maxLen; omega) (by simp)
  simpa [Own] using this
theorem Own.nil_ (w : World) (base : Nat) : Own w base (.slice none 0 0) [] := World.ownsRow_nil _ _ _ _
end Go.Proofs.Ytajeledbmnndmaa

namespace Go.Proofs.Ytajeledbmnndmaa
open Go.RowKit Go.Sort

/-- the elements below k of a set, in ascending order -/
def memN (S k : Nat) : List Nat := (List.range k).filter fun a => S.testBit a
def memL (S k : Nat) : List Int := (memN S k).map fun (a : Nat) => (a : Int)
theorem memN_succ (S k : Nat) : memN S (k + 1) = memN S k ++ if S.testBit k then [k] else [] := by
  unfold memN
  rw [List.range_succ, List.filter_append]
  congr 1
  rcases h : S.testBit k with _ | _ <;> simp [h]
theorem memL_yes {S k : Nat} (h : S.testBit k = true) : memL S (k + 1) = memL S k ++ [(k : Int)] := by unfold memL; rw [memN_succ, h]; simp
theorem memL_no {S k : Nat} (h : S.testBit k = false) : memL S (k + 1) = memL S k := by unfold memL; rw [memN_succ, h]; simp
theorem memN_len (S k : Nat) : (memN S k).length ≤ k := by
  unfold memN
  refine Nat.le_trans (List.length_filter_le _ _) ?_
  rw [List.length_range]; exact Nat.le_refl _
theorem memL_len (S k : Nat) : (memL S k).length ≤ k := by unfold memL; rw [List.length_map]; exact memN_len S k
theorem memN_top {S k n : Nat} (hk : k ≤ n) (h : S / 2 ^ k = 0) : memN S n = memN S k := by
  obtain ⟨d, rfl⟩ := Nat.exists_eq_add_of_le hk
  clear hk
  induction d with
  | zero => rfl
  | succ d ih =>
    have : S.testBit (k + d) = false := by
      have h1 : S < 2 ^ k := by
        rcases Nat.lt_or_ge S (2 ^ k) with h1 | h1
        · exact h1
        · have := Nat.div_pos h1 (Nat.two_pow_pos k); omega
      exact Nat.testBit_lt_two_pow (Nat.lt_of_lt_of_le h1 (Nat.pow_le_pow_right (by decide) (by omega)))
    rw [← Nat.add_assoc, memN_succ, this, ih]; simp
theorem mem_memN {S k a : Nat} : a ∈ memN S k ↔ a < k ∧ S.testBit a = true := by simp [memN]
theorem memL_at {S k j : Nat} (h : j < (memN S k).length) : (memL S k).getD j 0 = ((memN S k)[j] : Int) := by simp [memL, h]
theorem memN_at {S k j : Nat} (h : j < (memN S k).length) : (memN S k)[j] < k ∧ S.testBit (memN S k)[j] = true := mem_memN.1 (List.getElem_mem h)
set_option maxHeartbeats 1000000 in
theorem membersOf_any (S n : Nat) (w : World) (hS : S < 2 ^ n) (hn : n ≤ 60) :
    Calls Try.prog 74 #[.int .i64 S] w fun e w' => ∃ v', e = .returned v' ∧ Own w' w.heap.size v' (memL S n) ∧ Below w.heap.size w w' := by
  have hp : 2 ^ n ≤ 2 ^ 60 := Nat.pow_le_pow_right (by decide) hn
  rw [show (2 : Nat) ^ 60 = 1152921504606846976 from by decide] at hp
  have HS := Lib.hid hS
  have hS63 : S < 1152921504606846976 := by omega
  clear hp hS
  go_enter Try.func74, Try.ntmps74
  go_wp2
  go_loopw [3, 4] (fun v i wr => ∃ k : Nat, k ≤ n ∧ i = .int .i64 k ∧ Own wr w.heap.size v (memL S k) ∧ Below w.heap.size w wr) (fun _ i _ => n - (intOf i).toNat)
  case atStart => exact ⟨0, by omega, rfl, by simpa [memL, memN] using Own.nil_ w w.heap.size, Below.refl _ _⟩
  case round =>
    obtain ⟨k, hk, rfl, hown, hb⟩ := hrel
    have hlen := memL_len S k
    rcases hz : decide (0 < (S : Int) / 2 ^ k) with _ | _
    · have h0 : S / 2 ^ k = 0 := by
        have := of_decide_eq_false hz
        have h2 : ((S : Int) / 2 ^ k) = ((S / 2 ^ k : Nat) : Int) := by simp
        rw [h2] at this
        generalize S / 2 ^ k = d at *
        omega
      have HT : Hid (memL S n = memL S k) := by unfold Hid memL; rw [memN_top hk h0]
      clear h0
      go_wp2
      go_ret
      exact ⟨_, rfl, by rw [HT.out]; exact hown, hb⟩
    · have h0 : 0 < S / 2 ^ k := by
        have := of_decide_eq_true hz
        have h2 : ((S : Int) / 2 ^ k) = ((S / 2 ^ k : Nat) : Int) := by simp
        rw [h2] at this
        generalize S / 2 ^ k = d at *
        omega
      have hkn : k < n := by
        rcases Nat.lt_or_ge k n with h | h
        · exact h
        · have : S / 2 ^ k = 0 := Nat.div_eq_of_lt (Nat.lt_of_lt_of_le HS.out (Nat.pow_le_pow_right (by decide) h))
          omega
      clear h0
      have hbit := bit_test S k
      rcases hB : S.testBit k with _ | _
      · rw [hB] at hbit
        have HM := Lib.hid (memL_no hB)
        go_wp2
        go_roundw
        case rel => exact ⟨k + 1, by omega, by go_num, by rw [HM.out]; exact hown, hb⟩
        case measure => simp [intOf]; omega
      · rw [hB] at hbit
        have HM := Lib.hid (memL_yes hB)
        have hbs := hb.size
        go_wp2_with (at_builtin; refine wp_append1 _ rfl (.tmp 16) (.tmp 18) rfl w.heap.size _ _ _ rfl hown rfl (by omega) (by omega) ?_; intro v' w1 hown1 hg1)
        have hb1 := below_append hb hg1 hown (Nat.le_refl _) hbs
        go_roundw
        case rel => exact ⟨k + 1, by omega, by go_num, by rw [HM.out]; exact hown1, hb1⟩
        case measure => simp [intOf]; omega
set_option maxHeartbeats 1000000 in
theorem l02List_any (S n : Nat) (w : World) (hS : S < 2 ^ n) (hn : n ≤ 60) :
    Calls Try.prog 68 #[.int .i64 S] w fun e w' => ∃ v', e = .returned v' ∧ Own w' w.heap.size v' (memL S n) ∧ Below w.heap.size w w' := by
  have hp : 2 ^ n ≤ 2 ^ 60 := Nat.pow_le_pow_right (by decide) hn
  rw [show (2 : Nat) ^ 60 = 1152921504606846976 from by decide] at hp
  have HS := Lib.hid hS
  have hS63 : S < 1152921504606846976 := by omega
  clear hp hS
  go_enter Try.func68, Try.ntmps68
  go_wp2
  go_loopw [0, 3, 4] (fun s v i wr => ∃ k R : Nat, k ≤ n ∧ i = .int .i64 k ∧ s = .int .i64 R ∧ R ≤ S ∧ Hid (R = S / 2 ^ k) ∧ Own wr w.heap.size v (memL S k) ∧ Below w.heap.size w wr) (fun _ _ i _ => n - (intOf i).toNat)
  case atStart => exact ⟨0, S, by omega, rfl, rfl, Nat.le_refl _, by simp [Hid], by simpa [memL, memN] using Own.lit w w.heap.size [] (Nat.le_refl _) (by simp), below_alloc1 _ _⟩
  case round =>
    obtain ⟨k, R, hk, rfl, rfl, hR, HR, hown, hb⟩ := hrel
    have hlen := memL_len S k
    by_cases hz : 0 < R
    · have hkn : k < n := by
        rcases Nat.lt_or_ge k n with h | h
        · exact h
        · have : S / 2 ^ k = 0 := Nat.div_eq_of_lt (Nat.lt_of_lt_of_le HS.out (Nat.pow_le_pow_right (by decide) h))
          have := HR.out
          omega
      have HN : Hid (R / 2 = S / 2 ^ (k + 1)) := by unfold Hid; rw [HR.out, Nat.div_div_eq_div_mul, ← Nat.pow_succ]
      have hand := i64_and_one (R : Int)
      have hT : S.testBit k = decide (R % 2 = 1) := by rw [Nat.testBit_eq_decide_div_mod_eq, ← HR.out]
      rcases hB : S.testBit k with _ | _
      · rw [hB] at hT
        have h2 := of_decide_eq_false hT.symm
        have hbit : (bits BinOp.and IntKind.i64 (R : Int) 1 == 1) = false := by rw [hand]; simp; omega
        have HM := Lib.hid (memL_no hB)
        clear hand hT
        go_wp2
        go_roundw
        case rel => exact ⟨k + 1, R / 2, by omega, by go_num, by go_num, by omega, HN.out, by rw [HM.out]; exact hown, hb⟩
        case measure => simp [intOf]; omega
      · rw [hB] at hT
        have h2 := of_decide_eq_true hT.symm
        have hbit : (bits BinOp.and IntKind.i64 (R : Int) 1 == 1) = true := by rw [hand]; simp; omega
        have HM := Lib.hid (memL_yes hB)
        have hbs := hb.size
        clear hand hT
        go_wp2_with (at_builtin; refine wp_append1 _ rfl (.tmp 13) (.tmp 15) rfl w.heap.size _ _ _ rfl hown rfl (by omega) (by omega) ?_; intro v' w1 hown1 hg1)
        have hb1 := below_append hb hg1 hown (Nat.le_refl _) hbs
        go_roundw
        case rel => exact ⟨k + 1, R / 2, by omega, by go_num, by go_num, by omega, HN.out, by rw [HM.out]; exact hown1, hb1⟩
        case measure => simp [intOf]; omega
    · obtain rfl : R = 0 := by omega
      have HT : Hid (memL S n = memL S k) := by unfold Hid memL; rw [memN_top hk HR.out.symm]
      go_wp2
      go_ret
      exact ⟨_, rfl, by rw [HT.out]; exact hown, hb⟩
end Go.Proofs.Ytajeledbmnndmaa

namespace Go.Proofs.Ytajeledbmnndmaa
open Go.RowKit Go.Sort

/-- a set with all that the listed beat -/
def orK (xs : List Int) (l : List Nat) (S : Nat) : Nat := l.foldl (fun s b => s ||| winsN xs b) S
theorem orK_snoc (xs : List Int) (l : List Nat) (b S : Nat) : orK xs (l ++ [b]) S = orK xs l S ||| winsN xs b := by simp [orK]
def nearN (xs : List Int) (a : Nat) : Nat := orK xs (memN (winsN xs a) 8) (winsN xs a ||| 2 ^ a)
def kingN (xs : List Int) (a : Nat) : Bool := nearN xs a == 2 ^ xs.length - 1
noncomputable def kingB (s : Int) (xs : List Int) (a : Int) : Bool := tourB s xs && (inB a 0 (s - 1) && kingN xs a.toNat)
theorem or_lt8 {a b : Nat} (ha : a < 256) (hb : b < 256) : a ||| b < 256 := Nat.or_lt_two_pow (n := 8) ha hb
theorem pow_lt8 {a : Nat} (h : a < 8) : 2 ^ a < 256 := Nat.pow_lt_pow_right (n := 8) (by decide) h
theorem take_snocN {l : List Nat} {k : Nat} (hk : k < l.length) : l.take (k + 1) = l.take k ++ [l[k]] := List.take_succ_eq_append_getElem hk
theorem orK_lt {s : Int} {xs : List Int} (hp : tourP s xs) {l : List Nat} (hl : ∀ b ∈ l, b < xs.length) {S : Nat} (hS : S < 256) : orK xs l S < 256 := by
  induction l generalizing S with
  | nil => exact hS
  | cons b l ih =>
    unfold orK
    rw [List.foldl_cons]
    exact ih (fun c hc => hl c (by simp [hc])) (or_lt8 hS (tour_wins hp (hl b (by simp))).2.2)
/-- the players whom a player beats are players -/
theorem wins_mem {s : Int} {xs : List Int} (hp : tourP s xs) {a : Nat} (ha : a < xs.length) : ∀ b ∈ memN (winsN xs a) 8, b < xs.length := by
  intro b hb
  have hw := (tour_wins hp ha).2.1
  have hbit := (mem_memN.1 hb).2
  rcases Nat.lt_or_ge b xs.length with h | h
  · exact h
  · have hs := hp.2.1
    rw [Nat.testBit_lt_two_pow (Nat.lt_of_lt_of_le hw (Nat.pow_le_pow_right (by decide) (by omega)))] at hbit
    cases hbit
/-- the cells of a tour as natural numbers -/
theorem tour_cells {w : World} {sl : Value} {s : Int} {xs : List Int} (h : Rd w sl xs) (hp : tourP s xs) :
    ∃ g off c, sl = .slice (some ⟨g, off, none⟩) xs.length c ∧ c ≤ maxLen ∧ g < w.heap.size ∧ ∀ j, j < xs.length → w.cell? ⟨g, off + j, none⟩ = some (.int .i64 (winsN xs j)) := by
  obtain ⟨A, c, rfl, -, hm, hc⟩ := h
  obtain ⟨g, off, rfl, hg, hx⟩ := hc (by have := hp.1; have := hp.2.1; omega)
  exact ⟨g, off, c, rfl, hm, hg, fun j hj => by rw [hx j hj, (tour_wins hp hj).1]⟩
theorem or_shl' (S a : Nat) (hS : S < 4611686018427387904) (h : a ≤ 61) : bits .or .i64 (wrap64 (2 ^ a)) (S : Int) = ((S ||| 2 ^ a : Nat) : Int) := by
  rw [shl_nat a h, i64_or_nat _ _ (pow_lt63 h) (by omega), Nat.or_comm]
theorem getD_nat {l : List Nat} {j : Nat} (h : j < l.length) : l.getD j 0 = l[j] := by simp [h]
/-- the cells of a list of players -/
theorem memL_cells {w : World} {v : Value} {base S k : Nat} (h : Own w base v (memL S k)) : ∃ A c, v = .slice A (memN S k).length c ∧ c ≤ maxLen ∧ (memN S k).length ≤ c ∧
    (0 < (memN S k).length → ∃ g off, A = some ⟨g, off, none⟩ ∧ g < w.heap.size ∧ ∀ j, j < (memN S k).length → w.cell? ⟨g, off + j, none⟩ = some (.int .i64 ((memN S k).getD j 0 : Nat))) := by
  obtain ⟨A, c, rfl, hl, hm, hc⟩ := h.rd
  have e : (memL S k).length = (memN S k).length := by simp [memL]
  rw [e] at hl hc
  refine ⟨A, c, by rw [e], hm, hl, fun h0 => ?_⟩
  obtain ⟨g, off, rfl, hg, hx⟩ := hc h0
  exact ⟨g, off, rfl, hg, fun j hj => by rw [hx j hj, memL_at hj, getD_nat hj]⟩
set_option maxHeartbeats 1000000 in
theorem isKing_any (s : Int) (sl : Value) (xs : List Int) (a : Nat) (w : World) (h : Rd w sl xs) (hp : tourP s xs) (ha : a < xs.length) :
    Calls Try.prog 132 #[.agg #[.int .i64 s, sl], .int .i64 a] w fun e w' => e = .returned (.bool (kingN xs a)) ∧ Below w.heap.size w w' := by
  obtain ⟨g, off, c, rfl, hm, hg, hx⟩ := tour_cells h hp
  unfold maxLen at hm
  have hs := hp.1
  have hsl := hp.2.1
  have HX := Lib.hid hx
  have HW := Lib.hid (fun j hj => (tour_wins hp (a := j) hj).2.2)
  have HM := Lib.hid (wins_mem hp ha)
  have HK := Lib.hid (fun (l : List Nat) (hl : ∀ b ∈ l, b < xs.length) => orK_lt hp hl (or_lt8 (tour_wins hp ha).2.2 (pow_lt8 (by omega : a < 8))))
  have hN : Hid (kingN xs a = (nearN xs a == 2 ^ xs.length - 1)) := rfl
  have hR : Hid (nearN xs a = orK xs (memN (winsN xs a) 8) (winsN xs a ||| 2 ^ a)) := rfl
  have hxa := hx a ha
  have h256 := HW.out a ha
  have hor := or_shl' (winsN xs a) a (by omega) (by omega)
  clear hp h hx
  generalize hn : xs.length = n at *
  obtain rfl : s = n := by omega
  have HN := Lib.hid hn
  clear hn
  go_enter Try.func132, Try.ntmps132
  go_wp2_with fail
  have b0 := below_alloc1 w (.cells #[.int .i64 n, .slice (some ⟨g, off, none⟩) n c] 28)
  have x0 := TBox.new w n (.slice (some ⟨g, off, none⟩) n c) 28
  generalize w.alloc (.cells #[.int .i64 n, .slice (some ⟨g, off, none⟩) n c] 28) = w0 at *
  have HX0 := Lib.hid x0
  have HB0 := Lib.hid b0
  clear x0 b0
  have y0_0 := HX0.out.1
  have y1_0 := HX0.out.2
  have c0 := cell_regrown ((HB0.out.cell (by exact hg)).trans hxa)
  have y0_q := cell_regrown y0_0
  have y1_q := cell_regrown y1_0
  clear y0_0 y1_0
  refine wp_region_below (by kernel_rfl) (by kernel_rfl) ?_
  repeat (go_big_quiet_step (first | (with_reducible fail)))
  refine wpQuiet_nil ?_
  intro wq hbq0
  have hbq := Lib.hid hbq0
  clear hbq0
  clear y0_q y1_q
  clear c0 hor
  have B1 := Lib.hid (Below.then HB0.out hbq.out)
  have X1 := HX0.out.below hbq.out
  have y0 := X1.1
  have y1 := X1.2
  have hxa := (B1.out.cell (by exact hg)).trans hxa
  have X1 := Lib.hid X1
  clear hbq HX0 HB0
  go_wp2_with fail
  refine (membersOf_any (winsN xs a) 8 _ h256 (by omega)).mono ?_
  rintro e w2 ⟨v, rfl, ho, hb2⟩
  obtain ⟨A, d, rfl, hd1, hd2, hl⟩ := memL_cells ho
  unfold maxLen at hd1
  have HL := Lib.hid hl
  have B2 := Lib.hid (Below.then B1.out hb2)
  have X2 := X1.out.below hb2
  clear y0 y1
  have y0 := X2.1
  have y1 := X2.2
  have HXX := Lib.hid (fun j hj => (B2.out.cell (by exact hg)).trans (HX.out j hj))
  have hm8 := memN_len (winsN xs a) 8
  clear hxa hb2 B1 X1 ho hl X2
  generalize hlst : memN (winsN xs a) 8 = L at *
  generalize winsN xs a ||| 2 ^ a = S0 at *
  generalize hLn : L.length = m at *
  have HLN := Lib.hid hLn
  clear hLn
  go_wp2
  go_loop [5, 23] (fun t i => ∃ k : Nat, k ≤ m ∧ i = .int .i64 k ∧ t = .int .i64 (orK xs (L.take k) S0 : Nat)) (fun _ i => m - (intOf i).toNat)
  case atStart => exact ⟨0, by omega, rfl, by simp [orK]⟩
  case round =>
    obtain ⟨k, hk, rfl, rfl⟩ := hrel
    have hN8 := HK.out (L.take k) (fun b hb => HM.out b (List.mem_of_mem_take hb))
    by_cases hlt : k < m
    · have hkl : k < L.length := by rw [HLN.out]; exact hlt
      obtain ⟨g', off', rfl, hg', hz⟩ := HL.out (by omega)
      have hzk := hz k hlt
      have hbn := HM.out (L.getD k 0) (by rw [getD_nat hkl]; exact List.getElem_mem hkl)
      have hxb := HXX.out (L.getD k 0) hbn
      have hw8 := HW.out (L.getD k 0) hbn
      have HST : Hid (orK xs (L.take (k + 1)) S0 = orK xs (L.take k) S0 ||| winsN xs (L.getD k 0)) := by unfold Hid; rw [take_snocN hkl, orK_snoc, getD_nat hkl]
      generalize L.getD k 0 = b at *
      generalize orK xs (L.take k) S0 = N at *
      have hor := i64_or_nat N (winsN xs b) (by omega) (by omega)
      generalize winsN xs b = wb at *
      clear hz
      go_wp2
      go_round
      case rel => exact ⟨k + 1, by omega, by go_num, by rw [HST.out]⟩
      case measure => simp [intOf]; omega
    · obtain rfl : k = m := by omega
      rw [show L.take k = L from List.take_of_length_le (by rw [HLN.out]; exact Nat.le_refl _)] at hN8 ⊢
      have hfull := full_nat n (by omega)
      rw [← hR.out] at hN8 ⊢
      go_wp2
      go_ret
      refine ⟨ret_bool ?_, B2.out⟩
      rw [hN.out]
      first | rw [hfull] | skip
      rw [Bool.eq_iff_iff, beq_iff_eq, beq_iff_eq]
      omega
set_option maxHeartbeats 400000 in
theorem l02All_any (n : Nat) (sl : Value) (w : World) (h : n ≤ 8) :
    Calls Try.prog 66 #[.agg #[.int .i64 n, sl]] w fun e w' => e = .returned (.int .i64 (2 ^ n - 1 : Nat)) ∧ Below w.heap.size w w' := by
  have B0 := Lib.hid (below_alloc1 w (.cells #[.int .i64 n, sl] 28))
  have hfull := full_nat n h
  have HF := Lib.hid hfull
  clear hfull
  go_enter Try.func66, Try.ntmps66
  go_wp2
  go_ret
  exact ⟨ret_int HF.out, B0.out⟩
end Go.Proofs.Ytajeledbmnndmaa

namespace Go.Proofs.Ytajeledbmnndmaa
open Go.RowKit Go.Sort

/-- who of two is gone to from a -/
def stepF (xs : List Int) (a best b : Nat) : Nat := if best = a ∨ popN 8 (winsN xs best) < popN 8 (winsN xs b) then b else best
def loseN (xs : List Int) (a n : Nat) : List Nat := (List.range n).filter fun b => bitI (xs.getD b 0) a
def kstK (xs : List Int) (a : Nat) (l : List Nat) : Nat := l.foldl (stepF xs a) a
def kstepN (xs : List Int) (a : Nat) : Nat := kstK xs a (loseN xs a xs.length)
noncomputable def kstepI (s : Int) (xs : List Int) (a : Int) : Int := if (tourB s xs && inB a 0 (s - 1)) = true then (kstepN xs a.toNat : Int) else -1
theorem kstK_snoc (xs : List Int) (a : Nat) (l : List Nat) (b : Nat) : kstK xs a (l ++ [b]) = stepF xs a (kstK xs a l) b := by simp [kstK]
theorem loseN_succ (xs : List Int) (a k : Nat) : loseN xs a (k + 1) = loseN xs a k ++ if bitI (xs.getD k 0) a then [k] else [] := by
  unfold loseN
  rw [List.range_succ, List.filter_append]
  congr 1
  rcases h : bitI (xs.getD k 0) a with _ | _ <;> simp [-List.getD_eq_getElem?_getD, h]
theorem stepF_mem (xs : List Int) (a best b : Nat) : stepF xs a best b = b ∨ stepF xs a best b = best := by unfold stepF; split <;> simp
theorem kstK_mem {xs : List Int} {a n : Nat} (ha : a < n) {l : List Nat} (hl : ∀ b ∈ l, b < n) : kstK xs a l < n := by
  have : ∀ (l : List Nat) (m : Nat), m < n → (∀ b ∈ l, b < n) → l.foldl (stepF xs a) m < n := by
    intro l
    induction l with
    | nil => intro m hm _; exact hm
    | cons b l ih =>
      intro m hm hl
      rw [List.foldl_cons]
      refine ih _ ?_ fun c hc => hl c (by simp [hc])
      rcases stepF_mem xs a m b with e | e
      · rw [e]; exact hl b (by simp)
      · rw [e]; exact hm
  exact this l a ha hl
theorem bit_nat {s : Int} {xs : List Int} (hp : tourP s xs) {a b : Nat} (ha : a < xs.length) : bitI (xs.getD a 0) b = (winsN xs a).testBit b := by
  rw [testBit_iff, ← (tour_wins hp ha).1]; rfl
/-- the set of those who beat a player -/
def lossN (xs : List Int) (a : Nat) : Nat := less (less (2 ^ xs.length - 1) (winsN xs a)) (2 ^ a)
theorem loss_list {s : Int} {xs : List Int} (hp : tourP s xs) {a : Nat} (ha : a < xs.length) : memN (lossN xs a) xs.length = loseN xs a xs.length := by
  unfold memN loseN
  refine List.filter_congr fun b hb => ?_
  have hb := List.mem_range.1 hb
  unfold lossN
  rw [testBit_less, testBit_less, testBit_full, Nat.testBit_two_pow, ← bit_nat hp ha]
  have hT := hp.2.2.2
  simp only [hb, decide_true, Bool.true_and]
  rcases Nat.lt_trichotomy a b with h | h | h
  · have h1 := (hT b hb).2 a h
    have e : decide (a = b) = false := by simp; omega
    rw [e]
    rcases h2 : bitI (xs.getD a 0) b with _ | _ <;> rcases h3 : bitI (xs.getD b 0) a with _ | _ <;> rw [h2, h3] at h1 <;> first | rfl | exact absurd rfl h1
  · subst h
    rw [(hT a ha).1]; simp
  · have h1 := (hT a ha).2 b h
    have e : decide (a = b) = false := by simp; omega
    rw [e]
    rcases h2 : bitI (xs.getD a 0) b with _ | _ <;> rcases h3 : bitI (xs.getD b 0) a with _ | _ <;> rw [h2, h3] at h1 <;> first | rfl | exact absurd rfl h1
theorem less_full_lt' (n S : Nat) : less (2 ^ n - 1) S < 2 ^ n := less_lt (by have := Nat.two_pow_pos n; omega)
theorem full_less {n W : Nat} (hW : W < 2 ^ n) : 2 ^ n - 1 - W = less (2 ^ n - 1) W := by
  have e : 2 ^ n - 1 - W = 2 ^ n - (W + 1) := by omega
  rw [e]
  apply Nat.eq_of_testBit_eq
  intro i
  rw [Nat.testBit_two_pow_sub_succ hW, testBit_less, testBit_full]
theorem loss_val {n W a : Nat} (hn : n ≤ 8) (hW : W < 2 ^ n) (ha : a < n) (hself : W.testBit a = false) :
    wrap64 (wrap64 (wrap64 (wrap64 (2 ^ n) - 1) - (W : Int)) - wrap64 (2 ^ a)) = ((less (less (2 ^ n - 1) W) (2 ^ a) : Nat) : Int) := by
  have hp8 := pow_le hn
  have hbit : (less (2 ^ n - 1) W).testBit a = true := by rw [testBit_less, testBit_full, hself]; simp [ha]
  have hlt : less (2 ^ n - 1) W < 256 := Nat.lt_of_lt_of_le (less_full_lt' n W) hp8
  have hge := Nat.ge_two_pow_of_testBit hbit
  have h3 := sub_less (Nat.lt_trans hlt (by decide)) (by omega) hbit
  have hpn : 1 ≤ 2 ^ n := Nat.one_le_two_pow
  rw [full_nat n hn, shl_nat a (by omega), ← Int.natCast_sub (by omega : W ≤ 2 ^ n - 1), full_less hW]
  rw [wrap64_nat _ (Nat.lt_trans hlt (by decide)), ← Int.natCast_sub hge, h3]
  exact wrap64_nat _ (Nat.lt_trans (less_lt (n := 8) hlt) (by decide))
set_option maxHeartbeats 1000000 in
theorem losses_any (s : Int) (sl : Value) (xs : List Int) (a : Nat) (w : World) (h : Rd w sl xs) (hp : tourP s xs) (ha : a < xs.length) :
    Calls Try.prog 138 #[.agg #[.int .i64 s, sl], .int .i64 a] w fun e w' => e = .returned (.int .i64 (lossN xs a : Nat)) ∧ Below w.heap.size w w' := by
  obtain ⟨g, off, c, rfl, hm, hg, hx⟩ := tour_cells h hp
  unfold maxLen at hm
  have hs := hp.1
  have hsl := hp.2.1
  have hw := (tour_wins hp ha).2.1
  have hself : (winsN xs a).testBit a = false := by rw [← bit_nat hp ha]; exact (hp.2.2.2 a ha).1
  have hxa := hx a ha
  have hL : Hid (lossN xs a = less (less (2 ^ xs.length - 1) (winsN xs a)) (2 ^ a)) := rfl
  clear hp h hx
  generalize hn : xs.length = n at *
  obtain rfl : s = n := by omega
  rw [show ((n : Int)).toNat = n from rfl] at hw
  generalize winsN xs a = W at *
  go_enter Try.func138, Try.ntmps138
  go_wp2_with fail
  have b0 := below_alloc1 w (.cells #[.int .i64 n, .slice (some ⟨g, off, none⟩) n c] 28)
  have x0 := TBox.new w n (.slice (some ⟨g, off, none⟩) n c) 28
  generalize w.alloc (.cells #[.int .i64 n, .slice (some ⟨g, off, none⟩) n c] 28) = w0 at *
  have HX0 := Lib.hid x0
  have HB0 := Lib.hid b0
  clear x0 b0
  have y0_0 := HX0.out.1
  have y1_0 := HX0.out.2
  have c0 := cell_regrown ((HB0.out.cell (by exact hg)).trans hxa)
  have y0_q := cell_regrown y0_0
  have y1_q := cell_regrown y1_0
  clear y0_0 y1_0
  refine wp_region_below (by kernel_rfl) (by kernel_rfl) ?_
  repeat (go_big_quiet_step (first | (with_reducible fail)))
  refine wpQuiet_nil ?_
  intro wq hbq0
  have hbq := Lib.hid hbq0
  clear hbq0
  clear y0_q y1_q
  go_wp2
  go_ret
  refine ⟨ret_int ?_, Below.then HB0.out hbq.out⟩
  rw [hL.out]
  exact loss_val (by omega) hw ha hself
end Go.Proofs.Ytajeledbmnndmaa

namespace Go.Proofs.Ytajeledbmnndmaa
open Go.RowKit Go.Sort

section
variable {P : Program} {ops : Array Oper} {md : Region.Mode} {C : World → Prop}

/-- whatever order is picked among the first n, with n of them left to do -/
def pickQ (P : Program) (md : Region.Mode) (ops : Array Oper) (C : World → Prop) (n : Nat) (L : Array Bool → Act → Prop) : Nat → Array Bool → Act → Prop
  | 0, b, a => L b a
  | f + 1, b, a => Region.ready md ops b ≠ [] ∧ ∀ i ∈ Region.ready md ops b, i < n ∧ qOp P ops C i (pickQ P md ops C n L f (b.setIfInBounds i true)) a

theorem pickQ_any {n g : Nat} {L : Array Bool → Act → Prop} {R : Exit → Act → World → Prop} (hL : ∀ b a w, C w → L b a → wpAny P md ops R g b a w) (f : Nat) :
    ∀ (b : Array Bool) (a : Act) (w : World), C w → pickQ P md ops C n L f b a → wpAny P md ops R (f + g) b a w := by
  induction f with
  | zero => intro b a w hw h; rw [Nat.zero_add]; exact hL _ _ _ hw h
  | succ f ih =>
    intro b a w hw h
    rw [show f + 1 + g = (f + g) + 1 by omega]
    exact ⟨fun h0 => absurd h0 h.1, fun i hi => wpOp_of_qOp hw (fun a' w' hw' h' => ih _ a' w' hw' h') (h.2 i hi).2⟩

theorem pickQ_first {n i : Nat} {oi : Oper} {v : Value} {L : Array Bool → Act → Prop} (hi : ops[i]? = some oi) (hsel : ∀ (j : Nat) (o : Oper) cs b, ops[j]? = some o → o.op ≠ .select cs b)
    (hs : Region.sinkB md ops n = true) (hc : Region.chainB md ops n = true) (hn : n < ops.size) (hin : i < n) (hdone : ∀ b a, L b a → ∀ j ∈ Region.ready md ops b, n ≤ j) (f : Nat) :
    ∀ (b : Array Bool) (a : Act), HeadInv md ops n b →
      (∀ j oj, ops[j]? = some oj → j ≠ i → b.getD j true = false → (∀ e ∈ oj.after, Region.binds md e = true → e.on ≠ i) → oi.apart ops oj = true) →
      i ∈ Region.ready md ops b → YieldsIn P ops C oi v a →
      pickQ P md ops C n L f (b.setIfInBounds i true) (a.put oi.dst v) → pickQ P md ops C n L (f + 1) b a := by
  induction f with
  | zero =>
    intro b a inv _ hr hy H
    have hun := (mem_ready.1 hr).1
    refine ⟨fun h => (by rw [h] at hr; cases hr), fun j hj => ?_⟩
    have hjn : j < n := Nat.lt_of_not_le fun h => tail_waits hs hc hn inv _ i rfl hin hun j h hj
    by_cases hji : j = i
    · subst hji; exact ⟨hjn, hy.qOp hi H⟩
    · have := hdone _ _ H j (ready_mono hj hji); omega
  | succ f ih =>
    intro b a inv hfree hr hy H
    have hun := (mem_ready.1 hr).1
    refine ⟨fun h => (by rw [h] at hr; cases hr), fun j hj => ?_⟩
    have hjn : j < n := Nat.lt_of_not_le fun h => tail_waits hs hc hn inv _ i rfl hin hun j h hj
    refine ⟨hjn, ?_⟩
    by_cases hji : j = i
    · subst hji; exact hy.qOp hi H
    · obtain ⟨hjun, oj, hoj, hall⟩ := mem_ready.1 hj
      have hnot : ∀ e ∈ oj.after, Region.binds md e = true → e.on ≠ i := fun e he hb heq => by
        have h1 := hall e he hb
        rw [heq, getD_both hun] at h1
        cases h1
      have h2 := qOp_put hoj (hfree j oj hoj hji hjun hnot) (fun cs b => hsel i oi cs b hi) (fun cs b => hsel j oj cs b hoj) hy (H.2 j (ready_mono hj hji)).2
      refine qOp_mono (fun a' h3 => ih (b.setIfInBounds j true) a' (inv.set hj hjn) (fun k ok hk hki hun hno => hfree k ok hk hki ?_ hno) (ready_mono hr (Ne.symm hji)) h3.1 ?_) h2
      · by_cases hjk : j = k
        · subst hjk; exact hjun
        · rw [getD_set_ne true hjk] at hun; exact hun
      · rw [Array.setIfInBounds_comm _ _ hji]
        exact h3.2

theorem pickQ_lex {n g : Nat} {Lq : Act → Prop} (hsel : Region.noSelect ops = true) (hs : Region.sinkB md ops n = true) (hc : Region.chainB md ops n = true) (hn : n < ops.size) :
    ∀ (l : List Oper) (k : Nat) (b : Array Bool) (a : Act), (∀ j, j < l.length → l[j]? = ops[k + j]?) → k + l.length = n → HeadInv md ops n b →
    Region.lexHead md ops g l.length k b = true → wpQuiet P ops C Lq l a → pickQ P md ops C n (fun b' a' => Region.seqB md ops g n b' = true ∧ Lq a') l.length b a := by
  intro l
  induction l with
  | nil =>
    intro k b a _ hk _ hB h
    obtain rfl : k = n := by simpa using hk
    exact ⟨by simpa [Region.lexHead] using hB, h⟩
  | cons o l ih =>
    intro k b a hl hk inv hB h
    have h0 : ops[k]? = some o := by simpa using (hl 0 (by simp)).symm
    simp only [List.length_cons, Region.lexHead, Bool.and_eq_true] at hB
    simp only [List.length_cons] at hk
    have hr : k ∈ Region.ready md ops b := by simpa using hB.1.1
    have hq : qOp P ops C k (wpQuiet P ops C Lq l) a := by unfold qOp; simp only [h0]; exact h
    obtain ⟨v, hy, hK⟩ := yieldsIn_of_qOp h0 hq
    exact pickQ_first h0 (Region.noSelect_spec hsel) hs hc hn (by omega) (fun b' a' hL => seqB_ready hL.1) l.length b a inv (Region.free_spec h0 hB.1.2) hr hy
      (ih (k + 1) _ _ (fun j hj => by have := hl (j + 1) (by simp; omega); simpa [Nat.add_assoc, Nat.add_comm 1 j] using this) (by omega) (inv.set hr (by omega)) hB.2 hK)

/-- THE FIRST n OPERATIONS QUIET IN A CLASS OF WORLDS, THE REST BEHIND THEM IN ONE ORDER. -/
theorem wp_region_quiet_tail {id : Nat} {Q : Exit → Act → World → Prop} {a : Act} {w : World} {l : List Oper} (n : Nat) (hm : P.follows .mixedOrders = true) (hB : Region.lexTailB .any l.toArray n = true)
    (hC : C { w with drawn := w.drawn + 1 }) (h : wpQuiet P l.toArray C (fun a' => ∀ w', C w' → wpList P l.toArray Q (l.drop n) a' w') (l.take n) a) : (Code.region id l.toArray true).wp P Q a w := by
  simp only [Region.lexTailB, Bool.and_eq_true, decide_eq_true_eq] at hB
  obtain ⟨⟨⟨⟨hsel, hn⟩, hs⟩, hc⟩, hlex⟩ := hB
  have hn' : n < l.length := by simpa using hn
  have htl : (l.take n).length = n := by simp; omega
  have hdl : (l.drop n).length = l.toArray.size - n := by simp
  have H := pickQ_lex (md := .any) (g := l.toArray.size - n) hsel hs hc hn (l.take n) 0 (Array.replicate l.toArray.size false) a
    (fun j hj => by have hj' : j < n := by rw [htl] at hj; exact hj
                    simp [hj'])
    (by simpa using htl) ⟨by simp, fun j oj _ hl => (by rw [getD_replicate_false] at hl; cases hl), fun t _ ht => getD_in (by simpa using ht) (getD_replicate_false _ _)⟩
    (by rw [htl]; exact hlex) h
  refine wp_region_any hm ?_
  have := pickQ_any (R := Q) (g := l.toArray.size - n) (fun b a' w' hw' hL => by
    have := wpAny_of_seq (md := .any) (Q' := Q) (l.drop n) n b a' w' (fun j => by simp [List.getElem?_drop]) (by rw [hdl]; exact hL.1) (hL.2 w' hw')
    rwa [hdl] at this) _ _ _ _ hC H
  rw [htl, show n + (l.toArray.size - n) = l.toArray.size by omega] at this
  exact this
end

/-- The same at callees that leave all that was there. -/
theorem wp_region_below_tail {P : Program} {id : Nat} {Q : Exit → Act → World → Prop} {a : Act} {w : World} {l : List Oper} (n : Nat) (hm : P.follows .mixedOrders = true) (hB : Region.lexTailB .any l.toArray n = true)
    (h : wpQuiet P l.toArray (fun w' => ∃ p : Regrown, w' = grow (redrawn w p.d) p.os) (fun a' => ∀ w', Below w.heap.size w w' → wpList P l.toArray Q (l.drop n) a' w') (l.take n) a) : (Code.region id l.toArray true).wp P Q a w :=
  wp_region_quiet_tail (C := fun w' => ∃ p : Regrown, w' = grow (redrawn w p.d) p.os) n hm hB ⟨⟨w.drawn + 1, #[]⟩, by rw [grow_empty]; rfl⟩ (by
    have e : (fun a' => ∀ w', (∃ p : Regrown, w' = grow (redrawn w p.d) p.os) → wpList P l.toArray Q (l.drop n) a' w') = (fun a' => ∀ w', Below w.heap.size w w' → wpList P l.toArray Q (l.drop n) a' w') := by
      funext a'
      exact propext ⟨fun h w' hb => h w' (regrown_of_below hb), fun h w' ⟨p, hp⟩ => by subst hp; exact h _ (below_regrown w p.d p.os)⟩
    rw [e]
    exact h)
end Go.Proofs.Ytajeledbmnndmaa

