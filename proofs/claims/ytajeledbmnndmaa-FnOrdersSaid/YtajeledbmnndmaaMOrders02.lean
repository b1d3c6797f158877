/- Texts put together: Own0, Rep, Frame, Res, Lg, TourLw, Ls, Marks, LgL, AppR, Ren, Rnm, Dfs. -/
import Derived.Test.YtajeledbmnndmaaMOrders01
import Derived.Laws.CopyOwn
import Derived.Deep.RegionLaw
import Derived.ProofKit
import Derived.OpenShut
import Derived.ShutString
import Derived.ChangeOld
import Derived.Lib.SmallJoins
import Derived.Deep.Slices
import Derived.Deep.Fields
import Derived.Deep.RegionHeld3
import Derived.Maps.AppendAt
namespace Go.Proofs.Ytajeledbmnndmaa
open Go.RowKit Go.Sort

theorem Own.at1 {w : World} {base g n c : Nat} {xs : List Int} (h : Own w base (.slice (some ⟨g, 0, none⟩) n c) xs) (hl : xs.length = n) (h0 : 0 < n) :
    (∀ k, k < n → w.cell? ⟨g, k, none⟩ = some (.int .i64 (xs.getD k 0))) ∧ ∀ k, w.frozen? ⟨g, k, none⟩ = false := by
  obtain ⟨g', c', e, -, -, -, hx, hf⟩ := h.at_ hl h0
  injection e with e _ _
  injection e with e
  injection e with e _ _
  subst e
  exact ⟨hx, hf⟩
theorem getD_set_other {xs : List Int} {a b : Nat} (v : Int) (h : a ≠ b) : (xs.set a v).getD b 0 = xs.getD b 0 := by
  simp [List.getD_eq_getElem?_getD, h]
theorem getD_set_same {xs : List Int} {a : Nat} (v : Int) (h : a < xs.length) : (xs.set a v).getD a 0 = v := by
  simp [List.getD_eq_getElem?_getD, h]
/-- a list that is told place by place -/
theorem list_ext0 {N M : List Int} {n : Nat} (h1 : N.length = n) (h2 : M.length = n) (h : ∀ i, i < n → N.getD i 0 = M.getD i 0) : N = M := by
  refine List.ext_getElem (by omega) fun i h3 h4 => ?_
  have := h i (by omega)
  simpa [h3, h4] using this
end Go.Proofs.Ytajeledbmnndmaa

namespace Go.Proofs.Ytajeledbmnndmaa
open Go.RowKit Go.Sort

theorem ints_made' (n : Nat) : (madeCells (Value.int IntKind.i64 0).cells (n * 1)).toList = (List.replicate n (0 : Int)).map (Value.int .i64) := by
  have := toList_madeCells_one (.int .i64 0) (n * 1)
  simpa [Value.cells] using this
end Go.Proofs.Ytajeledbmnndmaa

namespace Go.Proofs.Ytajeledbmnndmaa
open Go.ChangeShapes Go.WideShapes Go.ChangeAt Go.RowKit Go.Joins
set_option maxRecDepth 100000

theorem own : ownKnob Try.prog.godebug = none := by kernel_rfl
theorem laidOut : laidOutB Try.prog = true := by kernel_rfl

section
variable {H : Type} {enc : TypeId × Value → H} {W : World} {base b0 : Nat} {spare : Nat → Bool} {held : Bool} {v : Value} {d : DataW H} {p : List MemPlace} {r : Reach}

/-- A value that is an int. -/
def IntV (v : Value) : Prop := ∃ a : Int, v = .int .i64 a ∧ -9223372036854775808 ≤ a ∧ a ≤ 9223372036854775807
theorem open_intv (hv : Value.okWide Try.prog W r b0 3 v) (h : DataW.Trod enc Try.prog W base spare held 3 v d p) : IntV v := by
  obtain ⟨a, rfl, rfl, rfl, w1⟩ := open_int Try.underlying3 hv h
  have := bounds_i64 w1
  exact ⟨a, rfl, this.1, this.2⟩

/-- A value that reads as a slice of ints. -/
def IntsV (W : World) (v : Value) : Prop := ∃ xs, Rd W v xs ∧ I64s xs
theorem ints_of {fuel : Nat} {x : DataW H × List MemPlace} {v : Value} (hf : DataW.trod enc Try.prog W base spare held fuel 22 [v] = some x) : IntsV W v := by
  rcases open_ints Try.underlying22 Try.underlying3 (by kernel_rfl) hf with ⟨hcs, _⟩ | ⟨y, l, c, zs, hcs, _, hl, hm, hz, _, hcell, hwz⟩
  · simp at hcs
    subst hcs
    exact ⟨[], Rd.nil_ W, fun x hx => absurd hx (by simp)⟩
  · simp at hcs
    subst hcs
    exact ⟨zs.take l, Rd.of_row hl hm (by rw [hz]; split <;> omega) hcell, fun x hx => bounds_i64 (hwz x (List.mem_of_mem_take hx))⟩
theorem open_intsv (hv : Value.okWide Try.prog W r b0 22 v) (h : DataW.Trod enc Try.prog W base spare held 22 v d p) : IntsV W v := by
  obtain ⟨a0, len0, cap0, rfl⟩ := okWide_slice Try.underlying22 hv
  obtain ⟨fuel, hf⟩ := h
  exact ints_of hf

/-- A tour: its size, and the slice that reads as its wins. -/
def TourV (W : World) (v : Value) (s : Int) (xs : List Int) : Prop := ∃ sl, v = .agg #[.int .i64 s, sl] ∧ Rd W sl xs
def TourOpen (W : World) (v : Value) : Prop := ∃ s xs, TourV W v s xs ∧ I64s xs ∧ -9223372036854775808 ≤ s ∧ s ≤ 9223372036854775807
theorem cellsTour : Try.prog.cellsOf 24 = 2 := by kernel_rfl
theorem open_tourv (hv : Value.okWide Try.prog W r b0 24 v) (h : DataW.Trod enc Try.prog W base spare held 24 v d p) : TourOpen W v := by
  obtain ⟨c0, c1, y0, y1, m, rfl, rfl, rfl, hy0, hy1⟩ := open_agg2 Try.underlying24 (by kernel_rfl) cellsTour hv h
  obtain ⟨a, e0, rfl, wa⟩ := DataW.trod_int Try.underlying3 hy0
  simp at e0
  subst e0
  obtain ⟨xs, hr, hi⟩ := ints_of hy1
  exact ⟨a, xs, ⟨c1, rfl, hr⟩, hi, bounds_i64 wa⟩
end
end Go.Proofs.Ytajeledbmnndmaa

namespace Go.Proofs.Ytajeledbmnndmaa
open Go.ChangeShapes Go.WideShapes Go.ChangeAt Go.RowKit Go.Joins
set_option maxRecDepth 100000

/-- the value of a result -/
def ResB (a b c d : Int) : Prop := (-9223372036854775808 ≤ a ∧ a ≤ 9223372036854775807) ∧ (-9223372036854775808 ≤ b ∧ b ≤ 9223372036854775807) ∧ (-9223372036854775808 ≤ c ∧ c ≤ 9223372036854775807) ∧ (-9223372036854775808 ≤ d ∧ d ≤ 9223372036854775807)
def ResultV (v : Value) : Prop := ∃ a b c d : Int, v = .agg #[.int .i64 a, .int .i64 b, .int .i64 c, .int .i64 d] ∧ ResB a b c d

end Go.Proofs.Ytajeledbmnndmaa

namespace Go.Proofs.Ytajeledbmnndmaa
open Go.ChangeShapes Go.WideShapes Go.ChangeAt Go.RowKit Go.Joins Go.Deep
set_option maxRecDepth 100000

/-- a result: home, away, given, taken -/
abbrev R4 := Int × Int × Int × Int
def r4At (rs : List R4) (k : Nat) : R4 := rs.getD k (0, 0, 0, 0)
/-- four cells from here on -/
def Four (w : World) (b o : Nat) (r : R4) : Prop := w.cell? ⟨b, o, none⟩ = some (.int .i64 r.1) ∧ w.cell? ⟨b, o + 1, none⟩ = some (.int .i64 r.2.1) ∧ w.cell? ⟨b, o + 2, none⟩ = some (.int .i64 r.2.2.1) ∧ w.cell? ⟨b, o + 3, none⟩ = some (.int .i64 r.2.2.2)
theorem Four.keep {w w' : World} {b o : Nat} {r : R4} (h : Four w b o r) (hk : ∀ p : Addr, p.block = b → w'.cell? p = w.cell? p) : Four w' b o r :=
  ⟨(hk _ rfl).trans h.1, (hk _ rfl).trans h.2.1, (hk _ rfl).trans h.2.2.1, (hk _ rfl).trans h.2.2.2⟩
/-- THE SLICE VALUE v READS AS THE RESULTS rs. -/
def RdR (w : World) (v : Value) (rs : List R4) : Prop :=
  ∃ (A : Option Addr) (c : Nat), v = .slice A rs.length c ∧ rs.length ≤ c ∧ c ≤ maxLen ∧
    (0 < rs.length → ∃ b off, A = some ⟨b, off, none⟩ ∧ b < w.heap.size ∧ ∀ k, k < rs.length → Four w b (off + k * 4) (r4At rs k))
theorem RdR.keep {w w' : World} {v : Value} {rs : List R4} (h : RdR w v rs) (hs : w.heap.size ≤ w'.heap.size) (hk : ∀ p : Addr, p.block < w.heap.size → w'.cell? p = w.cell? p) : RdR w' v rs := by
  obtain ⟨A, c, rfl, hl, hc, hb⟩ := h
  refine ⟨A, c, rfl, hl, hc, fun h0 => ?_⟩
  obtain ⟨b, off, rfl, hlt, hcell⟩ := hb h0
  exact ⟨b, off, rfl, by omega, fun k hk' => (hcell k hk').keep fun p hp => hk p (by omega)⟩
theorem RdR.below {w w' : World} {v : Value} {rs : List R4} (h : RdR w v rs) (hb : Below w.heap.size w w') : RdR w' v rs := h.keep hb.size fun _ hp => hb.cell hp
theorem RdR.alloc {w : World} {v : Value} {rs : List R4} (h : RdR w v rs) (o : Obj) : RdR (w.alloc o) v rs := h.below ((Below.refl _ _).alloc (Nat.le_refl _) _)
theorem RdR.nil_ (w : World) : RdR w (.slice none 0 0) [] := ⟨none, 0, rfl, Nat.le_refl _, by unfold maxLen; omega, fun h => absurd h (by simp)⟩
def I64R (rs : List R4) : Prop := ∀ r ∈ rs, ResB r.1 r.2.1 r.2.2.1 r.2.2.2

/-- the cells of the results, one behind the other -/
def cells4 (r : R4) : List Value := [.int .i64 r.1, .int .i64 r.2.1, .int .i64 r.2.2.1, .int .i64 r.2.2.2]
def flat4 (rs : List R4) : List Value := rs.flatMap cells4
theorem flat4_length (rs : List R4) : (flat4 rs).length = rs.length * 4 := by
  induction rs with
  | nil => rfl
  | cons r rs ih => simp only [flat4, List.flatMap_cons, List.length_append, List.length_cons] at *; rw [ih]; simp [cells4]; omega
theorem flat4_append (rs ts : List R4) : flat4 (rs ++ ts) = flat4 rs ++ flat4 ts := by simp [flat4]
theorem flat4_at (rs : List R4) (k : Nat) (hk : k < rs.length) (i : Nat) (hi : i < 4) : (flat4 rs)[k * 4 + i]? = (cells4 (r4At rs k))[i]? := by
  induction rs generalizing k with
  | nil => simp at hk
  | cons r rs ih =>
    have e : flat4 (r :: rs) = cells4 r ++ flat4 rs := by simp [flat4]
    rw [e]
    cases k with
    | zero =>
      rw [List.getElem?_append_left (by simp [cells4]; omega)]
      simp [r4At]
    | succ k =>
      rw [List.getElem?_append_right (by simp [cells4]; omega)]
      have := ih k (by simpa using hk)
      rw [show (k + 1) * 4 + i - (cells4 r).length = k * 4 + i by simp [cells4]; omega, this]
      simp [r4At]

end Go.Proofs.Ytajeledbmnndmaa

namespace Go.Proofs.Ytajeledbmnndmaa
open Go.RowKit Go.Sort

/-- what is left behind so many -/
def szI (n : Nat) (left : Int) : Int := if 0 ≤ left - n then left - n else -1
theorem szI_yes {n : Nat} {left : Int} (h : 0 ≤ left - n) : szI n left = left - n := by unfold szI; rw [if_pos h]
theorem szI_no {n : Nat} {left : Int} (h : ¬ 0 ≤ left - n) : szI n left = -1 := by unfold szI; rw [if_neg h]
theorem read_back {w1 : World} {g h : Nat} (hne : h ≠ g) {x y u v z : Value} (c0 : w1.cell? ⟨g, 0, none⟩ = some x) (c1 : w1.cell? ⟨g, 1, none⟩ = some y) :
    (((w1.setCell ⟨h, 1, none⟩ z).setCell ⟨g, 0, none⟩ u).setCell ⟨g, 1, none⟩ v).cell? ⟨g, 0, none⟩ = some u ∧ (((w1.setCell ⟨h, 1, none⟩ z).setCell ⟨g, 0, none⟩ u).setCell ⟨g, 1, none⟩ v).cell? ⟨g, 1, none⟩ = some v := by
  have d0 : (w1.setCell ⟨h, 1, none⟩ z).cell? ⟨g, 0, none⟩ = some x := (World.cell?_setCell_other _ _ _ _ (by simp)).trans c0
  have d1 : (w1.setCell ⟨h, 1, none⟩ z).cell? ⟨g, 1, none⟩ = some y := (World.cell?_setCell_other _ _ _ _ (by simp)).trans c1
  have f0 := World.cell?_setCell_same _ _ u d0
  have f1 : ((w1.setCell ⟨h, 1, none⟩ z).setCell ⟨g, 0, none⟩ u).cell? ⟨g, 1, none⟩ = some y := (World.cell?_setCell_other _ _ _ _ (by simp)).trans d1
  exact ⟨(World.cell?_setCell_other _ _ _ _ (by simp)).trans f0, World.cell?_setCell_same _ _ v f1⟩
theorem setCell_grown (w : World) (p : Addr) (u : Value) : w.grownBy (w.setCell p u) (some p.block) :=
  ⟨rfl, rfl, rfl, by simp [World.setCell], fun k hk hne => Below.heap_setCell _ _ _ _ (fun e => hne (by rw [e]))⟩
theorem own_ne {v : Value} {b g : Nat} (h : ∀ k, v.ownBlock = some k → b ≤ k) (hg : g < b) : v.ownBlock = none ∨ v.ownBlock ≠ some g := by
  rcases e : v.ownBlock with _ | k
  · exact .inl rfl
  · right
    have := h k e
    intro h2
    injection h2
    omega
end Go.Proofs.Ytajeledbmnndmaa

namespace Go.Proofs.Ytajeledbmnndmaa
open Go.RowKit

theorem eqIntS_true (xs ys : List Int) (h : xs.length = ys.length) (HP : ∀ j, j < xs.length → xs.getD j 0 = ys.getD j 0) : decide (xs = ys) = true := by
  rw [decide_eq_true]
  apply List.ext_getElem h
  intro i h1 h2
  have := HP i h1
  simpa [h1, h2] using this

set_option maxHeartbeats 400000 in
theorem eqIntS_any (v1 v2 : Value) (xs ys : List Int) (w : World) (h1 : Rd w v1 xs) (h2 : Rd w v2 ys) :
    Calls Try.prog 13 #[v1, v2] w fun e w' => e = .returned (.bool (decide (xs = ys))) ∧ ∃ q, w' = w.drewN q := by
  obtain ⟨A, c, rfl, hl1, hm1, hc1⟩ := h1
  obtain ⟨B, d, rfl, hl2, hm2, hc2⟩ := h2
  unfold maxLen at hm1 hm2
  generalize hn : xs.length = n at *
  generalize hm : ys.length = m at *
  have H1 := Lib.hid hn
  have H2 := Lib.hid hm
  have H3 := Lib.hid hc1
  have H4 := Lib.hid hc2
  clear hn hm hc1 hc2
  by_cases hnm : n = m
  · subst hnm
    have hne : ((n : Int) != (n : Int)) = false := by simp
    go_enter Try.func13, Try.ntmps13
    go_wp2
    go_loopw [5] (fun i wr => ∃ k q : Nat, k ≤ n ∧ i = .int .i64 k ∧ wr = w.drewN q ∧ Hid (∀ j, j < k → xs.getD j 0 = ys.getD j 0)) (fun i _ => n - (intOf i).toNat)
    case atStart => exact ⟨0, 0, by omega, rfl, rfl, fun j hj => absurd hj (by omega)⟩
    case round =>
      obtain ⟨k, q, hk, rfl, rfl, HP⟩ := hrel
      by_cases hlt : k < n
      · obtain ⟨b, off, rfl, hb, hx⟩ := H3.out (by omega)
        obtain ⟨b', off', rfl, hb', hy⟩ := H4.out (by omega)
        have hxk := hx k hlt
        have hyk := hy k hlt
        clear hx hy
        go_wp2
        go_quiet (fail)
        go_wp2
        · have hne : (xs[k]?.getD 0 != ys[k]?.getD 0) = true := by assumption
          go_ret
          refine ⟨ret_bool ?_, q + nq, by simp⟩
          refine (decide_eq_false ?_).symm
          rintro rfl
          simp at hne
        · have hne : (xs[k]?.getD 0 != ys[k]?.getD 0) = false := by assumption
          go_roundw
          case rel =>
            refine ⟨k + 1, _, by omega, by go_num, rfl, fun j hj => ?_⟩
            by_cases hjk : j < k
            · exact HP.out j hjk
            · obtain rfl : j = k := by omega
              simpa using hne
          case measure => simp [intOf]; omega
      · have hge : ¬ ((k : Int) < (n : Int)) := by omega
        go_wp2
        go_ret
        refine ⟨ret_bool (eqIntS_true xs ys (by rw [H1.out, H2.out]) fun j hj => HP.out j (by have := H1.out; omega)).symm, q, rfl⟩
  · have hne : ((n : Int) != (m : Int)) = true := by simp; omega
    go_enter Try.func13, Try.ntmps13
    go_wp2
    go_ret
    refine ⟨ret_bool (decide_eq_false ?_).symm, 0, rfl⟩
    rintro rfl
    exact hnm (H1.out.symm.trans H2.out)

theorem eqIntS_refl (v1 v2 : Value) (xs : List Int) (w : World) (h1 : Rd w v1 xs) (h2 : Rd w v2 xs) :
    Calls Try.prog 13 #[v1, v2] w fun e w' => e = .returned (.bool true) ∧ ∃ q, w' = w.drewN q := by
  have := eqIntS_any v1 v2 xs xs w h1 h2
  rwa [decide_eq_true (rfl : xs = xs)] at this

theorem set_take (xs : List Int) (k : Nat) (hk : k < xs.length) : (xs.take k ++ List.replicate (xs.length - k) 0).set k (xs.getD k 0) = xs.take (k + 1) ++ List.replicate (xs.length - (k + 1)) 0 := by
  have hr : xs.length - k = (xs.length - (k + 1)) + 1 := by omega
  have hl : (xs.take k).length = k := by rw [List.length_take]; omega
  rw [List.set_append_right _ _ (by omega), hl, Nat.sub_self, hr, List.replicate_succ, List.set_cons_zero, List.take_succ_eq_append_getElem hk, List.append_assoc, List.singleton_append, show xs.getD k 0 = xs[k] by simp [hk]]

set_option maxHeartbeats 400000 in
theorem toIntS_any (v : Value) (xs : List Int) (w : World) (h : Rd w v xs) (hlen : xs.length ≤ 2097152) :
    Calls Try.prog 71 #[v] w fun e w' => ∃ v', e = .returned v' ∧ Own w' w.heap.size v' xs ∧ Below w.heap.size w w' := by
  obtain ⟨i0, hi, hz0, hz1, hz2⟩ := info_parts i64_info
  obtain ⟨A, c, rfl, hl1, hm1, hc1⟩ := h
  generalize hn : xs.length = n at *
  have H1 := Lib.hid hn
  have H3 := Lib.hid hc1
  clear hn hc1
  go_enter Try.func71, Try.ntmps71
  go_wp2_with (at_make; refine wpList_make_full _ rfl _ _ 22 rfl w.heap.size 3 i0 (.int .i64 0) 1 Try.underlying22 hi hz0 hz1 _ _ _ _ n rfl rfl rfl rfl (by rw [hz2]; omega) (by unfold maxLen; omega) (Nat.le_refl _) ?_; intro w1 hown hg1)
  have hb1 : Below w.heap.size w w1 := (Below.refl _ _).grown hg1 (Nat.le_refl _) (by simp)
  go_loopw [4] (fun i wr => ∃ k : Nat, k ≤ n ∧ i = .int .i64 k ∧ wr.ownsRow w.heap.size 3 1 (.slice (some ⟨w.heap.size, 0, none⟩) n n) n ((xs.take k ++ List.replicate (n - k) 0).map (Value.int .i64)) ∧ Below w.heap.size w wr) (fun i _ => n - (intOf i).toNat)
  case atStart => 
    refine ⟨0, Nat.zero_le _, rfl, ?_, hb1⟩
    have e : (madeCells (Value.int IntKind.i64 0).cells (n * 1)).toList = (xs.take 0 ++ List.replicate (n - 0) 0).map (Value.int .i64) := by
      have := toList_madeCells_one (.int .i64 0) (n * 1)
      simpa [Value.cells] using this
    rw [← e]; exact hown
  case round =>
    obtain ⟨k, hk, rfl, hwn, hb⟩ := hrel
    by_cases hlt : k < n
    · obtain ⟨b, off, rfl, hbb, hx⟩ := H3.out (by omega)
      have hxk : wr.cell? ⟨b, off + k, none⟩ = some (.int .i64 (xs.getD k 0)) := (hb.cell (by exact hbb)).trans (hx k hlt)
      have hck : wr.cell? ⟨w.heap.size, k, none⟩ = some (.int .i64 0) := by
        rw [World.ownsRow.cellAt hwn k (by omega)]
        simp [H1.out, hlt, hk]
      have hfk := World.ownsRow.frozenAt hwn k
      have S := World.ownsRow.stored hwn k (.int .i64 (xs.getD k 0))
      have hS : (wr.setCell ⟨w.heap.size, k, none⟩ (.int .i64 (xs.getD k 0))).ownsRow w.heap.size 3 1 (.slice (some ⟨w.heap.size, 0, none⟩) n n) n ((xs.take (k+1) ++ List.replicate (n - (k+1)) 0).map (Value.int .i64)) := by
        have e := set_take xs k (by have := H1.out; omega)
        rw [H1.out] at e
        rw [← e, List.map_set]
        exact S.1
      have HS := Lib.hid hS
      have hB' : Below w.heap.size w (wr.setCell ⟨w.heap.size, k, none⟩ (.int .i64 (xs.getD k 0))) := hb.setCell (Nat.le_refl _) _
      have HB := Lib.hid hB'
      clear hx S hS hB' hwn hb
      go_wp2
      go_roundw
      case rel => 
        rw [List.getD_eq_getElem?_getD] at HS HB
        exact ⟨k + 1, by omega, by go_num, HS.out, HB.out⟩
      case measure => simp [intOf]; omega
    · have hge : ¬ ((k : Int) < (n : Int)) := by omega
      go_wp2
      go_ret
      obtain rfl : k = n := by omega
      refine ⟨_, rfl, ?_, hb⟩
      unfold Own
      rw [H1.out]
      have e : xs.take k ++ List.replicate (k - k) 0 = xs := by rw [List.take_of_length_le (by rw [H1.out]; exact Nat.le_refl _)]; simp
      rw [e] at hwn
      exact hwn
end Go.Proofs.Ytajeledbmnndmaa

namespace Go.Proofs.Ytajeledbmnndmaa
open Go.RowKit

/-- the numbers from k on, n of them -/
def marks (k : Int) (n : Nat) : List Int := (List.range n).map fun (i : Nat) => k + (i : Int)
theorem marks_length (k : Int) (n : Nat) : (marks k n).length = n := by simp [marks]
theorem marks_getD (k : Int) {n i : Nat} (h : i < n) : (marks k n).getD i 0 = k + i := by simp [marks, h]

theorem Below.of_drew {w w' : World} (h : ∃ q, w' = w.drewN q) : Below w.heap.size w w' := by
  obtain ⟨q, rfl⟩ := h
  exact below_drewN (Below.refl _ _) q

theorem mark_set (xs : List Int) (k : Int) (i : Nat) (h : i < xs.length) : (marks k i ++ xs.drop i).set i (k + i) = marks k (i + 1) ++ xs.drop (i + 1) := by
  rw [List.set_append_right _ _ (by rw [marks_length]; exact Nat.le_refl _), marks_length, Nat.sub_self, List.drop_eq_getElem_cons h, List.set_cons_zero]
  simp [marks, List.range_succ]

theorem grown_trans {a b c : World} {row : Option Nat} (h : a.grownBy b row) (k : b.grownBy c row) : a.grownBy c row :=
  ⟨k.os.trans h.os, k.tape.trans h.tape, k.output.trans h.output, Nat.le_trans h.size k.size, fun i hi hne => (k.block i (Nat.lt_of_lt_of_le hi h.size) hne).trans (h.block i hi hne)⟩

set_option maxHeartbeats 400000 in
theorem markIntS_any (v : Value) (xs : List Int) (base : Nat) (k : Int) (w : World) (h : Own w base v xs) (hlen : xs.length ≤ 2097152) (hk : 0 ≤ k) (hk2 : k ≤ 16777216) :
    Calls Try.prog 16 #[v, .int .i64 k] w fun e w' => e = .returned (.int .i64 (k + xs.length)) ∧ Own w' base v (marks k xs.length) ∧ w.grownBy w' v.ownBlock := by
  have h' := h
  obtain ⟨A, c, rfl, hm1, hl1, hc1⟩ := h.form
  unfold maxLen at hm1
  unfold Own at h'
  generalize hn : xs.length = n at *
  have HO := Lib.hid h'
  have HN := Lib.hid hn
  have H3 := Lib.hid hc1
  clear h h' hn hc1
  go_enter Try.func16, Try.ntmps16
  go_wp2
  go_loopw [1, 5] (fun s i wr => ∃ j : Nat, j ≤ n ∧ i = .int .i64 j ∧ s = .int .i64 (k + j) ∧ wr.ownsRow base 3 1 (.slice A n c) n ((marks k j ++ xs.drop j).map (Value.int .i64)) ∧ w.grownBy wr (Value.slice A n c).ownBlock) (fun _ i _ => n - (intOf i).toNat)
  case atStart => exact ⟨0, by omega, rfl, by simp, by simpa [marks] using HO.out, World.grownBy.refl _ _⟩
  case round =>
    obtain ⟨j, hj, rfl, rfl, hown, hg⟩ := hrel
    by_cases hlt : j < n
    · obtain ⟨g, rfl, hb, hgl⟩ := H3.out (by omega)
      have hck : wr.cell? ⟨g, j, none⟩ = some (.int .i64 (xs.getD j 0)) := by
        rw [World.ownsRow.cellAt hown j (by omega)]
        have hl := HN.out
        simp [List.getElem?_append, marks_length, hlt, hl]
      have hfk := World.ownsRow.frozenAt hown j
      have S := World.ownsRow.stored hown j (.int .i64 (k + j))
      have hS : (wr.setCell ⟨g, j, none⟩ (.int .i64 (k + j))).ownsRow base 3 1 (.slice (some ⟨g, 0, none⟩) n c) n ((marks k (j + 1) ++ xs.drop (j + 1)).map (Value.int .i64)) := by
        rw [← mark_set xs k j (by have := HN.out; omega), List.map_set]
        exact S.1
      have hG : w.grownBy (wr.setCell ⟨g, j, none⟩ (.int .i64 (k + j))) (some g) := grown_trans hg S.2
      have HS := Lib.hid (And.intro hS hG)
      clear S hS hG hown hg
      go_wp2
      go_roundw
      case rel => exact ⟨j + 1, by omega, by go_num, by go_num, HS.out.1, HS.out.2⟩
      case measure => simp [intOf]; omega
    · obtain rfl : j = n := by omega
      go_wp2
      go_ret
      refine ⟨rfl, ?_, hg⟩
      unfold Own
      rw [marks_length]
      rw [List.drop_of_length_le (by have := HN.out; omega), List.append_nil] at hown
      exact hown

/-- what heldIntS returns -/
def heldI (xs : List Int) (k : Int) : Int := if xs = marks k xs.length then k + xs.length else -1
theorem heldI_marks (k : Int) (n : Nat) : heldI (marks k n) k = k + n := by unfold heldI; simp [marks_length]
theorem heldI_no {xs : List Int} {k : Int} {j : Nat} (hj : j < xs.length) (h : xs[j]?.getD 0 ≠ k + j) : heldI xs k = -1 := by
  unfold heldI
  rw [if_neg]
  intro e
  apply h
  rw [← List.getD_eq_getElem?_getD, e, marks_getD k hj]
theorem heldI_yes {xs : List Int} {k : Int} (h : ∀ j, j < xs.length → xs.getD j 0 = k + j) : heldI xs k = k + xs.length := by
  unfold heldI
  rw [if_pos]
  apply List.ext_getElem (by rw [marks_length])
  intro i h1 h2
  have := h i h1
  rw [← marks_getD k h1] at this
  simpa [h1, h2] using this

set_option maxHeartbeats 400000 in
theorem heldIntS_any (v : Value) (xs : List Int) (k : Int) (w : World) (h : Rd w v xs) (hlen : xs.length ≤ 2097152) (hk : 0 ≤ k) (hk2 : k ≤ 16777216) :
    Calls Try.prog 17 #[v, .int .i64 k] w fun e w' => e = .returned (.int .i64 (heldI xs k)) ∧ w = w' := by
  obtain ⟨A, c, rfl, hl1, hm1, hc1⟩ := h
  unfold maxLen at hm1
  generalize hn : xs.length = n at *
  have HN := Lib.hid hn
  have H3 := Lib.hid hc1
  clear hn hc1
  go_enter Try.func17, Try.ntmps17
  go_wp2
  go_loop [1, 5] (fun s i => ∃ j : Nat, j ≤ n ∧ i = .int .i64 j ∧ s = .int .i64 (k + j) ∧ Hid (∀ i, i < j → xs.getD i 0 = k + i)) (fun _ i => n - (intOf i).toNat)
  case atStart => exact ⟨0, by omega, rfl, by simp, fun j hj => absurd hj (by omega)⟩
  case round =>
    obtain ⟨j, hj, rfl, rfl, HP⟩ := hrel
    by_cases hlt : j < n
    · obtain ⟨b, off, rfl, hb, hx⟩ := H3.out (by omega)
      have hxk := hx j hlt
      clear hx
      go_wp2
      · have h : (xs[j]?.getD 0 != k + (j : Int)) = true := by assumption
        go_ret
        exact ⟨ret_int (heldI_no (j := j) (by have := HN.out; omega) (by simpa using h)).symm, rfl⟩
      · have h : (xs[j]?.getD 0 != k + (j : Int)) = false := by assumption
        go_round
        case rel =>
          refine ⟨j + 1, by omega, by go_num, by go_num, fun i hi => ?_⟩
          by_cases hij : i < j
          · exact HP.out i hij
          · obtain rfl : i = j := by omega
            simpa using h
        case measure => simp [intOf]; omega
    · obtain rfl : j = n := by omega
      go_wp2
      go_ret
      exact ⟨ret_int (by rw [heldI_yes (by rw [HN.out]; exact HP.out), HN.out]), rfl⟩
theorem heldMarks_any (v : Value) (n : Nat) (k : Int) (w : World) (h : Rd w v (marks k n)) (hlen : n ≤ 2097152) (hk : 0 ≤ k) (hk2 : k ≤ 16777216) :
    Calls Try.prog 17 #[v, .int .i64 k] w fun e w' => e = .returned (.int .i64 (k + n)) ∧ w = w' := by
  have := heldIntS_any v (marks k n) k w h (by rw [marks_length]; exact hlen) hk hk2
  rwa [heldI_marks] at this
theorem apart_symm {a b : Option Nat} (h : a = none ∨ a ≠ b) : b = none ∨ b ≠ a := by
  rcases h with h | h
  · subst h; cases b <;> simp
  · exact .inr (Ne.symm h)
end Go.Proofs.Ytajeledbmnndmaa

namespace Go.Proofs.Ytajeledbmnndmaa
open Go.ChangeShapes Go.WideShapes Go.ChangeAt Go.RowKit Go.Joins Go.Deep Go.Sort
set_option maxRecDepth 100000


theorem flat4_set (rs : List R4) (k : Nat) (hk : k < rs.length) (r : R4) :
    ((((flat4 rs).set (k * 4) (.int .i64 r.1)).set (k * 4 + 1) (.int .i64 r.2.1)).set (k * 4 + 2) (.int .i64 r.2.2.1)).set (k * 4 + 3) (.int .i64 r.2.2.2) = flat4 (rs.set k r) := by
  induction rs generalizing k with
  | nil => simp at hk
  | cons q rs ih =>
    cases k with
    | zero => simp [flat4, cells4]
    | succ k =>
      have e : flat4 (q :: rs) = cells4 q ++ flat4 rs := by simp [flat4]
      have l : (cells4 q).length = 4 := rfl
      have s : ∀ (L : List Value) (i : Nat) (u : Value), (cells4 q ++ L).set ((k + 1) * 4 + i) u = cells4 q ++ L.set (k * 4 + i) u := fun L i u => by
        rw [List.set_append_right _ _ (by omega), l, show (k + 1) * 4 + i - 4 = k * 4 + i by omega]
      have s0 : ∀ (L : List Value) (u : Value), (cells4 q ++ L).set ((k + 1) * 4) u = cells4 q ++ L.set (k * 4) u := fun L u => s L 0 u
      rw [e, s0, s, s, s, ih k (by simpa using hk), List.set_cons_succ]
      simp [flat4]
end Go.Proofs.Ytajeledbmnndmaa

namespace Go.Proofs.Ytajeledbmnndmaa
open Go.RowKit Go.Sort

/-- a struct {int, slice} in a box that may be stored to -/
def BoxF (W : World) (g : Nat) (s : Int) (v : Value) : Prop := TBox W g s v ∧ ∀ k, W.frozen? ⟨g, k, none⟩ = false
theorem BoxF.new (w : World) (s : Int) (v : Value) (t : TypeId) : BoxF (w.alloc (.cells #[.int .i64 s, v] t)) w.heap.size s v := ⟨TBox.new w s v t, fun k => by simp⟩
theorem BoxF.gt {W : World} {g : Nat} {s : Int} {v : Value} (h : BoxF W g s v) : g < W.heap.size := World.block_lt_of_cell? W _ h.1.1
theorem BoxF.below {W W' : World} {g : Nat} {s : Int} {v : Value} (h : BoxF W g s v) (hb : Below W.heap.size W W') : BoxF W' g s v :=
  ⟨h.1.below hb, fun k => ((bcell hb).2 _ _ h.gt).trans (h.2 k)⟩
theorem BoxF.kept {W W' : World} {g : Nat} {s : Int} {v : Value} {row : Option Nat} (h : BoxF W g s v) (hg : W.grownBy W' row) (hne : some g ≠ row) : BoxF W' g s v :=
  ⟨h.1.kept hg hne, fun k => (World.frozen?_of_block (hg.block g h.gt hne)).trans (h.2 k)⟩
theorem BoxF.set1 {W : World} {g : Nat} {s : Int} {v : Value} (h : BoxF W g s v) (v' : Value) : BoxF (W.setCell ⟨g, 1, none⟩ v') g s v' :=
  ⟨⟨(World.cell?_setCell_other _ _ _ _ (by simp)).trans h.1.1, World.cell?_setCell_same _ _ _ h.1.2⟩, fun k => by have := h.2 k; simpa [go_sem] using this⟩
theorem BoxF.set01 {W : World} {g : Nat} {s : Int} {v : Value} (h : BoxF W g s v) (s' : Int) (v' : Value) : BoxF ((W.setCell ⟨g, 0, none⟩ (.int .i64 s')).setCell ⟨g, 1, none⟩ v') g s' v' :=
  ⟨⟨(World.cell?_setCell_other _ _ _ _ (by simp)).trans (World.cell?_setCell_same _ _ _ h.1.1), World.cell?_setCell_same _ _ _ ((World.cell?_setCell_other _ _ _ _ (by simp)).trans h.1.2)⟩, fun k => by have := h.2 k; simpa [go_sem] using this⟩
end Go.Proofs.Ytajeledbmnndmaa

namespace Go.Proofs.Ytajeledbmnndmaa
open Go.RowKit Go.Sort
set_option maxRecDepth 100000

/-- each number below n once -/
def PermP (n : Nat) (ns : List Int) : Prop := ns.length = n ∧ (∀ x ∈ ns, 0 ≤ x ∧ x < n) ∧ ns.Nodup
def nmN (ns : List Int) (a : Nat) : Nat := (ns.getD a 0).toNat
theorem getD_mem' {ns : List Int} {a : Nat} (h : a < ns.length) : ns.getD a 0 ∈ ns := by
  rw [show ns.getD a 0 = ns[a] by simp [h]]; exact List.getElem_mem h
theorem nm_val {n : Nat} {ns : List Int} (hp : PermP n ns) {a : Nat} (ha : a < n) : ns.getD a 0 = (nmN ns a : Int) ∧ nmN ns a < n := by
  have := hp.2.1 _ (getD_mem' (by rw [hp.1]; exact ha))
  unfold nmN; omega
theorem nm_inj {n : Nat} {ns : List Int} (hp : PermP n ns) {a b : Nat} (ha : a < n) (hb : b < n) (h : nmN ns a = nmN ns b) : a = b := by
  have h1 := (nm_val hp ha).1
  have h2 := (nm_val hp hb).1
  have ha' : a < ns.length := by rw [hp.1]; exact ha
  have hb' : b < ns.length := by rw [hp.1]; exact hb
  have e : ns[a] = ns[b] := by
    have e1 : ns.getD a 0 = ns[a] := by simp [ha']
    have e2 : ns.getD b 0 = ns[b] := by simp [hb']
    rw [← e1, ← e2, h1, h2, h]
  have hpw := List.pairwise_iff_getElem.1 hp.2.2
  rcases Nat.lt_trichotomy a b with h | h | h
  · exact absurd e (hpw a b ha' hb' h)
  · exact h
  · exact absurd e.symm (hpw b a hb' ha' h)
theorem nm_surj {n : Nat} {ns : List Int} (hp : PermP n ns) {i : Nat} (hi : i < n) : ∃ a, a < n ∧ nmN ns a = i := by
  refine Classical.byContradiction fun hc => ?_
  have hno : (i : Int) ∉ ns := fun h => by
    obtain ⟨a, ha, e⟩ := List.mem_iff_getElem.1 h
    refine hc ⟨a, by rw [← hp.1]; exact ha, ?_⟩
    unfold nmN
    rw [show ns.getD a 0 = ns[a] by simp [ha], e]; rfl
  have := nodup_le n ((i : Int) :: ns) (List.nodup_cons.2 ⟨hno, hp.2.2⟩) (fun y hy => by
    rw [List.mem_cons] at hy
    rcases hy with rfl | hy
    · omega
    · exact hp.2.1 y hy)
  rw [List.length_cons, hp.1] at this
  omega
/-- behind the pairs before (a, b) -/
def rnF (xs ns : List Int) (n : Nat) (N : List Int) (a b : Nat) : Prop :=
  N.length = n ∧ (∀ i, i < n → ∃ S : Nat, N.getD i 0 = (S : Int) ∧ S < 2 ^ n) ∧ ∀ p q, p < n → q < n → (N.getD (nmN ns p) 0).toNat.testBit (nmN ns q) = (decide (p < a ∨ (p = a ∧ q < b)) && (winsN xs p).testBit q)
theorem rnF_start {xs ns : List Int} {n : Nat} : rnF xs ns n (List.replicate n 0) 0 0 := by
  have e : ∀ i, (List.replicate n (0 : Int)).getD i 0 = 0 := fun i => by
    by_cases h : i < n
    · simp [h]
    · simp [Nat.le_of_not_lt h]
  refine ⟨by simp, fun i _ => ⟨0, e i, Nat.two_pow_pos n⟩, fun p q _ _ => ?_⟩
  rw [e]; simp
theorem rnF_no {xs ns N : List Int} {n a b : Nat} (h : rnF xs ns n N a b) (hb : (winsN xs a).testBit b = false) : rnF xs ns n N a (b + 1) := by
  refine ⟨h.1, h.2.1, fun p q hp hq => ?_⟩
  rw [h.2.2 p q hp hq]
  by_cases e : p = a ∧ q = b
  · obtain ⟨rfl, rfl⟩ := e; rw [hb]; simp
  · congr 1; rw [decide_eq_decide]; omega
theorem rnF_next {xs ns N : List Int} {n a : Nat} (h : rnF xs ns n N a n) : rnF xs ns n N (a + 1) 0 := by
  refine ⟨h.1, h.2.1, fun p q hp hq => ?_⟩
  rw [h.2.2 p q hp hq]
  congr 1; rw [decide_eq_decide]; omega
theorem rnF_yes {xs ns N : List Int} {n a b S : Nat} (hP : PermP n ns) (_hn : n ≤ 8) (h : rnF xs ns n N a b) (ha : a < n) (hb : b < n) (hS : N.getD (nmN ns a) 0 = (S : Int)) (hbit : (winsN xs a).testBit b = true) :
    S < 2 ^ n ∧ S.testBit (nmN ns b) = false ∧ rnF xs ns n (N.set (nmN ns a) ((S ||| 2 ^ nmN ns b : Nat) : Int)) a (b + 1) := by
  have va := (nm_val hP ha).2
  have vb := (nm_val hP hb).2
  obtain ⟨S', e, hlt⟩ := h.2.1 _ va
  obtain rfl : S = S' := by rw [hS] at e; omega
  refine ⟨hlt, ?_, ?_⟩
  · have := h.2.2 a b ha hb
    rw [hS] at this
    simpa using this
  · refine ⟨by rw [List.length_set]; exact h.1, fun i hi => ?_, fun p q hp hq => ?_⟩
    · by_cases hi2 : i = nmN ns a
      · subst hi2
        rw [getD_set_same _ (by rw [h.1]; exact hi)]
        exact ⟨_, rfl, Nat.or_lt_two_pow hlt (Nat.pow_lt_pow_right (by decide) vb)⟩
      · rw [getD_set_other _ (Ne.symm hi2)]; exact h.2.1 i hi
    · by_cases hpa : p = a
      · subst hpa
        rw [getD_set_same _ (by rw [h.1]; exact va)]
        have h1 := h.2.2 p q hp hq
        rw [hS] at h1
        have e3 : (((S ||| 2 ^ nmN ns b : Nat) : Int)).toNat = S ||| 2 ^ nmN ns b := rfl
        have e4 : ((S : Int)).toNat = S := rfl
        rw [e4] at h1
        rw [e3, Nat.testBit_or, Nat.testBit_two_pow, h1]
        by_cases hqb : q = b
        · subst hqb; rw [hbit]; simp
        · have : decide (nmN ns b = nmN ns q) = false := by
            rw [decide_eq_false_iff_not]; intro e; exact hqb (nm_inj hP hq hb e.symm)
          rw [this, Bool.or_false]
          congr 1; rw [decide_eq_decide]; omega
      · have hne : nmN ns a ≠ nmN ns p := fun e => hpa (nm_inj hP hp ha e.symm)
        rw [getD_set_other _ hne, h.2.2 p q hp hq]
        congr 1; rw [decide_eq_decide]; omega
theorem rnF_unique {xs ns N M : List Int} {n : Nat} (hP : PermP n ns) (h1 : rnF xs ns n N n 0) (h2 : rnF xs ns n M n 0) : N = M :=
  list_ext0 h1.1 h2.1 fun i hi => by
    obtain ⟨S, e1, l1⟩ := h1.2.1 i hi
    obtain ⟨T, e2, l2⟩ := h2.2.1 i hi
    rw [e1, e2]
    congr 1
    refine Nat.eq_of_testBit_eq fun j => ?_
    by_cases hj : j < n
    · obtain ⟨p, hp, rfl⟩ := nm_surj hP hi
      obtain ⟨q, hq, rfl⟩ := nm_surj hP hj
      have a1 := h1.2.2 p q hp hq
      have a2 := h2.2.2 p q hp hq
      rw [e1] at a1
      rw [e2] at a2
      exact a1.trans a2.symm
    · have hle : 2 ^ n ≤ 2 ^ j := Nat.pow_le_pow_right (by decide) (by omega)
      rw [Nat.testBit_lt_two_pow (Nat.lt_of_lt_of_le l1 hle), Nat.testBit_lt_two_pow (Nat.lt_of_lt_of_le l2 hle)]
open Classical in
noncomputable def rnL (xs ns : List Int) : List Int := if h : ∃ N, rnF xs ns xs.length N xs.length 0 then Classical.choose h else []
theorem rnL_eq {xs ns N : List Int} {n : Nat} (hn : xs.length = n) (hP : PermP n ns) (h : rnF xs ns n N n 0) : N = rnL xs ns := by
  subst hn
  have hex : ∃ N, rnF xs ns xs.length N xs.length 0 := ⟨N, h⟩
  unfold rnL
  rw [dif_pos hex]
  exact rnF_unique hP h (Classical.choose_spec hex)
set_option maxHeartbeats 4000000 in
theorem renamed_any (s : Int) (sl : Value) (xs ns : List Int) (nv : Value) (w : World) (h : Rd w sl xs) (hp : tourP s xs) (h2 : Rd w nv ns) (hP : PermP xs.length ns) :
    Calls Try.prog 84 #[.agg #[.int .i64 s, sl], nv] w fun e w' => ∃ sl', e = .returned (.agg #[.int .i64 s, sl']) ∧ Own w' w.heap.size sl' (rnL xs ns) ∧ rnF xs ns xs.length (rnL xs ns) xs.length 0 ∧ Below w.heap.size w w' := by
  obtain ⟨i0, hi, hz0, hz1, hz2⟩ := info_parts i64_info
  obtain ⟨g, off, c, rfl, hm, hg, hx⟩ := tour_cells h hp
  unfold maxLen at hm
  have hs := hp.1
  have hsl := hp.2.1
  have HX := Lib.hid hx
  have HW := Lib.hid (fun j hj => (tour_wins hp (a := j) hj).2.2)
  obtain ⟨B, d, rfl, hdl, hdm, hdc⟩ := h2
  rw [hP.1] at hdl hdc ⊢
  obtain ⟨gn, on, rfl, hgn, hnx⟩ := hdc (by omega)
  unfold maxLen at hdm
  have HNX := Lib.hid hnx
  clear hp h hx hdc hnx
  generalize hn : xs.length = n at *
  obtain rfl : s = n := by omega
  have HN := Lib.hid hn
  have HPP := Lib.hid hP
  clear hn hP
  go_enter Try.func84, Try.ntmps84
  go_wp2_with fail
  have b0 := (below_alloc1 w (.cells #[.int .i64 n, .slice (some ⟨g, off, none⟩) n c] 28)).alloc (by simp) (.cells #[.int .i64 0, .slice none 0 0] 28)
  have x0 := (TBox.new w n (.slice (some ⟨g, off, none⟩) n c) 28).below (below_alloc1 _ (.cells #[.int .i64 0, .slice none 0 0] 28))
  have t0 := BoxF.new (w.alloc (.cells #[.int .i64 n, .slice (some ⟨g, off, none⟩) n c] 28)) 0 (.slice none 0 0) 28
  simp only [World.size_alloc] at t0
  generalize (w.alloc (.cells #[.int .i64 n, .slice (some ⟨g, off, none⟩) n c] 28)).alloc (.cells #[.int .i64 0, .slice none 0 0] 28) = w0 at *
  have HX0 := Lib.hid x0
  have HB0 := Lib.hid b0
  have HT0 := Lib.hid t0
  clear x0 b0 t0
  have y0_0 := HX0.out.1
  have y1_0 := HX0.out.2
  have hgt0 : w.heap.size + 1 < w0.heap.size := HT0.out.gt
  have bA := below_alloc1 w0 (.cells #[.int .i64 0, .slice none 0 0] 28)
  have hXA := HX0.out.below bA
  have hTA := HT0.out.below bA
  have ya0 := hXA.1
  have ya1 := hXA.2
  have hUA := BoxF.new w0 0 (.slice none 0 0) 28
  have BA : Below w.heap.size w (w0.alloc (.cells #[.int .i64 0, .slice none 0 0] 28)).drew := (let q := Below.then HB0.out bA; ⟨q.os, q.tape, q.output, q.size, q.block⟩)
  have B0d : Below w.heap.size w w0.drew := ⟨HB0.out.os, HB0.out.tape, HB0.out.output, HB0.out.size, HB0.out.block⟩
  -- the row made first, or the box laid first
  obtain ⟨W1, hrun1, r1, gr1⟩ := run_make_full (P := Try.prog) w0.drew w0.heap.size 22 3 i0 (.int .i64 0) 1 Try.underlying22 hi hz0 hz1 .i64 .i64 n (by rw [hz2]; omega) (by unfold maxLen; omega) (Nat.le_refl _)
  obtain ⟨W2, hrun2, r2, gr2⟩ := run_make_full (P := Try.prog) (w0.alloc (.cells #[.int .i64 0, .slice none 0 0] 28)).drew w0.heap.size 22 3 i0 (.int .i64 0) 1 Try.underlying22 hi hz0 hz1 .i64 .i64 n (by rw [hz2]; omega) (by unfold maxLen; omega) (show w0.heap.size ≤ (w0.alloc (.cells #[.int .i64 0, .slice none 0 0] 28)).heap.size by simp)
  have X1 := (show TBox w0.drew w.heap.size n (.slice (some ⟨g, off, none⟩) n c) from HX0.out).kept gr1 (by simp)
  have T1 := Lib.hid ((show BoxF w0.drew (w.heap.size + 1) 0 (.slice none 0 0) from HT0.out).kept gr1 (by simp))
  have B1 := Lib.hid (Below.grown B0d gr1 B0d.size (by simp))
  have X2 := (show TBox (w0.alloc (.cells #[.int .i64 0, .slice none 0 0] 28)).drew w.heap.size n (.slice (some ⟨g, off, none⟩) n c) from hXA).kept gr2 (by simp)
  have T2 := Lib.hid ((show BoxF (w0.alloc (.cells #[.int .i64 0, .slice none 0 0] 28)).drew (w.heap.size + 1) 0 (.slice none 0 0) from hTA).kept gr2 (by simp))
  have U2 := (show BoxF (w0.alloc (.cells #[.int .i64 0, .slice none 0 0] 28)).drew w0.heap.size 0 (.slice none 0 0) from hUA).kept gr2 (by simp)
  have B2 := Lib.hid (Below.grown BA gr2 BA.size (by simp))
  rw [ints_made'] at r1 r2
  have O1 : Hid (Own W1 w0.heap.size (.slice (some ⟨w0.heap.size, 0, none⟩) n n) (List.replicate n 0)) := by unfold Hid Own; rw [List.length_replicate]; exact r1
  have O2' : Own W2 w0.heap.size (.slice (some ⟨(w0.alloc (.cells #[.int .i64 0, .slice none 0 0] 28)).heap.size, 0, none⟩) n n) (List.replicate n 0) := by unfold Own; rw [List.length_replicate]; exact r2
  simp only [World.size_alloc] at O2'
  have O2 := Lib.hid O2'
  have hu0 := U2.1.1
  have hu1 := U2.1.2
  have hf0 := U2.2 0
  have hf1 := U2.2 1
  have q10 := X1.1
  have q11 := X1.2
  have q20 := X2.1
  have q21 := X2.2
  have z1 := X1.below (below_alloc1 W1 (.cells #[.int .i64 0, .slice none 0 0] 28))
  have q30 := z1.1
  have q31 := z1.2
  have z2 := X1.below (below_alloc1 W1 (.cells #[.int .i64 n, .slice (some ⟨w0.heap.size, 0, none⟩) n n] 28))
  have q40 := z2.1
  have q41 := z2.2
  have z3 := (X2.kept (setCell_grown _ ⟨w0.heap.size, 0, none⟩ (.int .i64 n)) (by simp; omega)).kept (setCell_grown _ ⟨w0.heap.size, 1, none⟩ (.slice (some ⟨w0.heap.size + 1, 0, none⟩) n n)) (by simp; omega)
  have q50 := z3.1
  have q51 := z3.2
  have hs1 := gr1.size
  have Hs1 : w0.heap.size < W1.heap.size := (World.ownsRow.lt r1 w0.heap.size rfl).2
  clear O2' bA hXA hTA hUA BA B0d r1 r2 gr1 gr2 X1 X2 z1 z2 z3
  go_region_held3 (fun W => W.cell? ⟨w.heap.size, 0, none⟩ = some (.int .i64 n) ∧ W.cell? ⟨w.heap.size, 1, none⟩ = some (.slice (some ⟨g, off, none⟩) n c))
    (first | exact ⟨y0_0, y1_0⟩ | exact ⟨ya0, ya1⟩ | exact ⟨q10, q11⟩ | exact ⟨q20, q21⟩ | exact ⟨q30, q31⟩ | exact ⟨q40, q41⟩ | exact ⟨q50, q51⟩)
    (first
      | (fail))
  all_goals
    clear hrun1 hrun2 y0_0 y1_0 ya0 ya1 q10 q11 q20 q21
    first
      | (have hck : W1 = W1 := rfl
         have HU := Lib.hid (BoxF.new W1 n (.slice (some ⟨w0.heap.size, 0, none⟩) n n) 28)
         have b2 := below_alloc1 W1 (.cells #[.int .i64 n, .slice (some ⟨w0.heap.size, 0, none⟩) n n] 28)
         have HT := Lib.hid (T1.out.below b2)
         have HO := Lib.hid (O1.out.below b2)
         have HB := Lib.hid (Below.then B1.out b2)
         have HXW := Lib.hid (show TBox _ w.heap.size n (.slice (some ⟨g, off, none⟩) n c) from ⟨q40, q41⟩)
         have hgu : w.heap.size + 1 < W1.heap.size ∧ W1.heap.size ≠ w0.heap.size ∧ w.heap.size + 1 < w0.heap.size := by omega
         clear b2 O1 T1 B1 O2 T2 B2 q30 q31 q40 q41 q50 q51 hu0 hu1 hf0 hf1 U2 Hs1 hs1
         generalize hWW : W1.alloc (.cells #[.int .i64 n, .slice (some ⟨w0.heap.size, 0, none⟩) n n] 28) = W at HU HT HO HB HXW ⊢
         obtain ⟨gu, hgue⟩ : ∃ gu, gu = W1.heap.size := ⟨_, rfl⟩
         rw [← hgue] at HU hgu ⊢
         obtain ⟨gl, hgle⟩ : ∃ gl, gl = w0.heap.size := ⟨_, rfl⟩
         rw [← hgle] at HU HO hgu ⊢
         have hcheck : (Value.pointer (some ⟨gu, 0, none⟩)) = Value.pointer (some ⟨W1.heap.size, 0, none⟩) := by rw [hgue]
         clear hcheck hgle hgue hWW hck hgt0
         clear HX0 HT0 HB0
         skip)
      | (have HU := Lib.hid (U2.set01 n (.slice (some ⟨w0.heap.size + 1, 0, none⟩) n n))
         have HT := Lib.hid ((T2.out.kept (setCell_grown _ ⟨w0.heap.size, 0, none⟩ (.int .i64 n)) (by simp; omega)).kept (setCell_grown _ ⟨w0.heap.size, 1, none⟩ (.slice (some ⟨w0.heap.size + 1, 0, none⟩) n n)) (by simp; omega))
         have HO := Lib.hid ((O2.out.kept (setCell_grown _ ⟨w0.heap.size, 0, none⟩ (.int .i64 n)) (by right; simp [Value.ownBlock])).kept (setCell_grown _ ⟨w0.heap.size, 1, none⟩ (.slice (some ⟨w0.heap.size + 1, 0, none⟩) n n)) (by right; simp [Value.ownBlock]))
         have HB := Lib.hid ((B2.out.setCell (p := ⟨w0.heap.size, 0, none⟩) (show w.heap.size ≤ w0.heap.size by omega) (.int .i64 n)).setCell (p := ⟨w0.heap.size, 1, none⟩) (show w.heap.size ≤ w0.heap.size by omega) (.slice (some ⟨w0.heap.size + 1, 0, none⟩) n n))
         have HXW := Lib.hid (show TBox _ w.heap.size n (.slice (some ⟨g, off, none⟩) n c) from ⟨q50, q51⟩)
         have hgu : w.heap.size + 1 < w0.heap.size ∧ w0.heap.size ≠ w0.heap.size + 1 ∧ w.heap.size + 1 < w0.heap.size + 1 := by omega
         clear O1 T1 B1 O2 T2 B2 q30 q31 q40 q41 q50 q51 hu0 hu1 hf0 hf1 U2 Hs1 hs1
         generalize hWW : ((W2.setCell ⟨w0.heap.size, 0, none⟩ (.int .i64 n)).setCell ⟨w0.heap.size, 1, none⟩ (.slice (some ⟨w0.heap.size + 1, 0, none⟩) n n)) = W at HU HT HO HB HXW ⊢
         obtain ⟨gl, hgle⟩ : ∃ gl, gl = w0.heap.size + 1 := ⟨_, rfl⟩
         rw [← hgle] at HU HO hgu ⊢
         obtain ⟨gu, hgue⟩ : ∃ gu, gu = w0.heap.size := ⟨_, rfl⟩
         rw [← hgue] at HU hgu ⊢
         have HO := Lib.hid (HO.out.mono (show w.heap.size ≤ _ by omega))
         clear hgle hgue hWW hgt0
         clear HX0 HT0 HB0
         skip)
    obtain ⟨hgu1, hgu2, hgu3⟩ := hgu
    have HO := Lib.hid (show Own W w.heap.size (.slice (some ⟨gl, 0, none⟩) n n) (List.replicate n 0) from HO.out.mono (by first | exact Nat.le_refl _ | omega))
    have yw0 := HXW.out.1
    have yw1 := HXW.out.2
    go_wp2
    go_loopw [18] (fun i wr => ∃ (a : Nat) (N : List Int), a ≤ n ∧ i = .int .i64 a ∧ Own wr w.heap.size (.slice (some ⟨gl, 0, none⟩) n n) N ∧ Hid (rnF xs ns n N a 0) ∧ BoxF wr gu n (.slice (some ⟨gl, 0, none⟩) n n) ∧ BoxF wr (w.heap.size + 1) 0 (.slice none 0 0) ∧ TBox wr w.heap.size n (.slice (some ⟨g, off, none⟩) n c) ∧ Below w.heap.size w wr) (fun i _ => n - (intOf i).toNat)
    case atStart => exact ⟨0, _, by omega, rfl, HO.out, rnF_start, HU.out, HT.out, HXW.out, HB.out⟩
    case round =>
      obtain ⟨wa, rfl⟩ : ∃ x, x = wr := ⟨_, rfl⟩
      obtain ⟨a, N, ha, rfl, hown, HP, hu, ht, hx, hb⟩ := hrel
      have HOa := Lib.hid hown
      have HUa := Lib.hid hu
      have HTa := Lib.hid ht
      have HXa := Lib.hid hx
      have HBa := Lib.hid hb
      have y0 := hx.1
      have y1 := hx.2
      clear hown hu ht hx hb HO HU HT HXW HB yw0 yw1
      by_cases hlta : a < n
      · have hxa := (HBa.out.cell (p := ⟨g, off + a, none⟩) hg).trans (HX.out a hlta)
        have h256 := HW.out a hlta
        go_wp2
        go_loopw [25] (fun i wr => ∃ (b : Nat) (N : List Int), b ≤ n ∧ i = .int .i64 b ∧ Own wr w.heap.size (.slice (some ⟨gl, 0, none⟩) n n) N ∧ Hid (rnF xs ns n N a b) ∧ BoxF wr gu n (.slice (some ⟨gl, 0, none⟩) n n) ∧ BoxF wr (w.heap.size + 1) 0 (.slice none 0 0) ∧ TBox wr w.heap.size n (.slice (some ⟨g, off, none⟩) n c) ∧ Below w.heap.size w wr) (fun i _ => n - (intOf i).toNat)
        case atStart => exact ⟨0, N, by omega, rfl, HOa.out, HP, HUa.out, HTa.out, HXa.out, HBa.out⟩
        case round =>
          obtain ⟨b, M, hbn, rfl, hown, HP2, hu, ht, hx, hb⟩ := hrel
          have HO := Lib.hid hown
          have HU := Lib.hid hu
          have HT := Lib.hid ht
          have HX2 := Lib.hid hx
          have HB := Lib.hid hb
          clear hown hu ht hx hb y0 y1 hxa
          by_cases hltb : b < n
          · have hbit := bit_test (winsN xs a) b
            rcases hq : (winsN xs a).testBit b with _ | _
            · rw [hq] at hbit
              have HR := Lib.hid (rnF_no HP2.out hq)
              go_wp2
              go_roundw
              case rel => exact ⟨b + 1, M, by omega, by go_num, HO.out, HR.out, HU.out, HT.out, HX2.out, HB.out⟩
              case measure => simp [intOf]; omega
            · rw [hq] at hbit
              obtain ⟨na, va⟩ := nm_val HPP.out hlta
              obtain ⟨nb, vb⟩ := nm_val HPP.out hltb
              obtain ⟨S, hS, -⟩ := HP2.out.2.1 _ va
              obtain ⟨hSn, hSb, hYES⟩ := rnF_yes HPP.out (by omega) HP2.out hlta hltb hS hq
              have HY := Lib.hid hYES
              have hp8 := pow_le (n := n) (by omega)
              have cna := (HB.out.cell (p := ⟨gn, on + a, none⟩) hgn).trans (HNX.out a hlta)
              have cnb := (HB.out.cell (p := ⟨gn, on + b, none⟩) hgn).trans (HNX.out b hltb)
              rw [na] at cna
              rw [nb] at cnb
              have hMl := HP2.out.1
              have za := (HO.out.at1 hMl (by omega)).1 _ va
              rw [hS] at za
              have hor := or_shl S (nmN ns b) (by omega) (by omega)
              have HADD := Lib.hid hor
              have hY2 := HY.out
              have HS := Lib.hid hS
              clear hYES hS hSb na nb
              generalize hA : nmN ns a = A at *
              generalize hBB : nmN ns b = B' at *
              have HA := Lib.hid hA
              have HBB := Lib.hid hBB
              clear hA hBB
              generalize hX : S ||| 2 ^ B' = X at *
              have HXX := Lib.hid hX
              clear hX
              go_wp2_with fail
              have c1 := cell_regrown HU.out.1.2
              have c2 := cell_regrown za
              have c3 := cell_regrown cna
              have c4 := cell_regrown cnb
              clear za cna cnb hbit
              refine wp_region_below_tail 15 (by kernel_rfl) (by kernel_rfl) ?_
              simp only [List.take_succ_cons, List.take_zero, List.drop_succ_cons, List.drop_zero]
              repeat (go_big_quiet_step (first | (with_reducible fail)))
              refine wpQuiet_nil ?_
              intro wq hbq0
              have hbq := Lib.hid hbq0
              clear hbq0
              clear c1 c2 c3 c4 hor
              have O2 := HO.out.below hbq.out
              obtain ⟨hx2, hf2⟩ := O2.at1 hMl (by omega)
              have za := hx2 A va
              have fa := hf2 A
              have HO3 := Lib.hid (O2.set_ hMl A (X : Int)).1
              have HU3 := Lib.hid ((HU.out.below hbq.out).kept (setCell_grown _ ⟨gl, A, none⟩ (.int .i64 X)) (by simp; omega))
              have HT3 := Lib.hid ((HT.out.below hbq.out).kept (setCell_grown _ ⟨gl, A, none⟩ (.int .i64 X)) (by simp; omega))
              have HX3 := Lib.hid ((HX2.out.below hbq.out).kept (setCell_grown _ ⟨gl, A, none⟩ (.int .i64 X)) (by simp; omega))
              have HB3 := Lib.hid ((Below.then HB.out hbq.out).setCell (p := ⟨gl, A, none⟩) (show w.heap.size ≤ gl by omega) (.int .i64 X))
              clear hx2 hf2 O2 HO HU HT HX2 HB hbq
              go_wp2
              go_roundw
              case rel =>
                first | rw [HADD.out] | skip
                exact ⟨b + 1, M.set A X, by omega, by go_num, HO3.out, hY2, HU3.out, HT3.out, HX3.out, HB3.out⟩
              case measure => simp [intOf]; omega
          · obtain rfl : n = b := by omega
            have HR := Lib.hid (rnF_next HP2.out)
            go_wp2
            go_roundw
            case rel => exact ⟨a + 1, M, by omega, by go_num, HO.out, HR.out, HU.out, HT.out, HX2.out, HB.out⟩
            case measure => simp [intOf]; omega
      · obtain rfl : n = a := by omega
        have HE := Lib.hid (rnL_eq HN.out HPP.out HP.out)
        have u0 := HUa.out.1.1
        have u1 := HUa.out.1.2
        have v0 := HTa.out.1.1
        have v1 := HTa.out.1.2
        have f0 := HTa.out.2 0
        have f1 := HTa.out.2 1
        have hgu4 : gu ≠ w.heap.size + 1 := by omega
        have HOx := Lib.hid ((HOa.out.kept (setCell_grown _ ⟨w.heap.size + 1, 0, none⟩ (.int .i64 n)) (by right; simp [Value.ownBlock]; omega)).kept (setCell_grown _ ⟨w.heap.size + 1, 1, none⟩ (.slice (some ⟨gl, 0, none⟩) n n)) (by right; simp [Value.ownBlock]; omega))
        have HBx := Lib.hid ((HBa.out.setCell (p := ⟨w.heap.size + 1, 0, none⟩) (by simp) (.int .i64 n)).setCell (p := ⟨w.heap.size + 1, 1, none⟩) (by simp) (.slice (some ⟨gl, 0, none⟩) n n))
        have R0 : Hid (((wa.setCell ⟨w.heap.size + 1, 0, none⟩ (.int .i64 n)).setCell ⟨w.heap.size + 1, 1, none⟩ (.slice (some ⟨gl, 0, none⟩) n n)).cell? ⟨w.heap.size + 1, 0, none⟩ = some (.int .i64 n)) := (World.cell?_setCell_other _ _ _ _ (by simp)).trans (World.cell?_setCell_same _ _ _ v0)
        have R1 : Hid (((wa.setCell ⟨w.heap.size + 1, 0, none⟩ (.int .i64 n)).setCell ⟨w.heap.size + 1, 1, none⟩ (.slice (some ⟨gl, 0, none⟩) n n)).cell? ⟨w.heap.size + 1, 1, none⟩ = some (.slice (some ⟨gl, 0, none⟩) n n)) := World.cell?_setCell_same _ _ _ ((World.cell?_setCell_other _ _ _ _ (by simp)).trans v1)
        clear y0 y1
        go_wp2
        have r0 := R0.out
        have r1 := R1.out
        refine bodyPost_ret (v := .agg #[.int .i64 n, .slice (some ⟨gl, 0, none⟩) n n]) (by simp only [results, Try.results84]; simp [go_sem, r0, r1]) rfl ⟨_, rfl, ?_, ?_, HBx.out⟩
        · rw [← HE.out]; exact HOx.out
        · rw [← HE.out]; exact HP.out
end Go.Proofs.Ytajeledbmnndmaa

namespace Go.Proofs.Ytajeledbmnndmaa
open Go.RowKit Go.Sort
set_option maxRecDepth 100000

/-! renamed tours -/
abbrev bt (xs : List Int) (a b : Nat) : Bool := (winsN xs a).testBit b
theorem nm_list {n : Nat} (f : Nat → Nat) {a : Nat} (h : a < n) : nmN ((List.range n).map fun a => (f a : Int)) a = f a := by
  unfold nmN; simp [h]
theorem perm_list {n : Nat} (f : Nat → Nat) (h1 : ∀ a, a < n → f a < n) (h2 : ∀ a b, a < n → b < n → f a = f b → a = b) : PermP n ((List.range n).map fun a => (f a : Int)) := by
  refine ⟨by simp, fun x hx => ?_, ?_⟩
  · obtain ⟨a, ha, rfl⟩ := List.mem_map.1 hx
    rw [List.mem_range] at ha
    have := h1 a ha
    omega
  · unfold List.Nodup
    rw [List.pairwise_iff_getElem]
    intro i j hi hj hij e
    simp only [List.length_map, List.length_range] at hi hj
    simp only [List.getElem_map, List.getElem_range] at e
    have := h2 i j hi hj (by exact_mod_cast e)
    omega
open Classical in
noncomputable def invF (n : Nat) (ns : List Int) (i : Nat) : Nat := if h : ∃ a, a < n ∧ nmN ns a = i then Classical.choose h else 0
theorem inv_spec {n : Nat} {ns : List Int} (hP : PermP n ns) {i : Nat} (hi : i < n) : invF n ns i < n ∧ nmN ns (invF n ns i) = i := by
  have hx := nm_surj hP hi
  unfold invF
  rw [dif_pos hx]
  exact Classical.choose_spec hx
theorem inv_nm {n : Nat} {ns : List Int} (hP : PermP n ns) {a : Nat} (ha : a < n) : invF n ns (nmN ns a) = a := by
  have h := inv_spec hP (nm_val hP ha).2
  exact nm_inj hP h.1 ha h.2
theorem rn_exists {xs ns : List Int} {n : Nat} (hn : xs.length = n) (hP : PermP n ns) : rnF xs ns n (rnL xs ns) n 0 := by
  have h : rnF xs ns n ((List.range n).map fun i => ((setOf (fun j => bt xs (invF n ns i) (invF n ns j)) n : Nat) : Int)) n 0 := by
    have e : ∀ i, i < n → ((List.range n).map fun i => ((setOf (fun j => bt xs (invF n ns i) (invF n ns j)) n : Nat) : Int)).getD i 0 = ((setOf (fun j => bt xs (invF n ns i) (invF n ns j)) n : Nat) : Int) := fun i hi => by simp [hi]
    refine ⟨by simp, fun i hi => ⟨_, e i hi, setOf_lt _ _⟩, fun p q hp hq => ?_⟩
    rw [e _ (nm_val hP hp).2]
    show (setOf (fun j => bt xs (invF n ns (nmN ns p)) (invF n ns j)) n).testBit (nmN ns q) = _
    rw [testBit_setOf, inv_nm hP hp, inv_nm hP hq]
    simp [hp, (nm_val hP hq).2]
  have e := rnL_eq hn hP h
  rw [e] at h
  exact h
theorem rn_len {xs ns : List Int} {n : Nat} (hn : xs.length = n) (hP : PermP n ns) : (rnL xs ns).length = n := (rn_exists hn hP).1
theorem rn_bit {xs ns : List Int} {n : Nat} (hn : xs.length = n) (hP : PermP n ns) {p q : Nat} (hp : p < n) (hq : q < n) : bt (rnL xs ns) (nmN ns p) (nmN ns q) = bt xs p q := by
  have := (rn_exists hn hP).2.2 p q hp hq
  unfold bt winsN at *
  rw [this]
  simp [hp]
theorem rn_of {xs ns N : List Int} {n : Nat} (hn : xs.length = n) (hP : PermP n ns) (h1 : N.length = n) (h2 : ∀ i, i < n → ∃ S : Nat, N.getD i 0 = (S : Int) ∧ S < 2 ^ n) (h3 : ∀ p q, p < n → q < n → bt N (nmN ns p) (nmN ns q) = bt xs p q) : N = rnL xs ns :=
  rnL_eq hn hP ⟨h1, h2, fun p q hp hq => by
    have := h3 p q hp hq
    unfold bt winsN at *
    rw [this]; simp [hp]⟩
theorem rn_small {xs ns : List Int} {n : Nat} (hn : xs.length = n) (hP : PermP n ns) {i : Nat} (hi : i < n) : ∃ S : Nat, (rnL xs ns).getD i 0 = (S : Int) ∧ S < 2 ^ n := (rn_exists hn hP).2.1 i hi
/-- one renaming behind another -/
theorem rn_comp {xs p q : List Int} {n : Nat} (hn : xs.length = n) (hP : PermP n p) (hQ : PermP n q) : ∃ r, PermP n r ∧ rnL (rnL xs p) q = rnL xs r := by
  refine ⟨(List.range n).map fun a => ((nmN q (nmN p a) : Nat) : Int), perm_list _ (fun a ha => (nm_val hQ (nm_val hP ha).2).2) (fun a b ha hb e => nm_inj hP ha hb (nm_inj hQ (nm_val hP ha).2 (nm_val hP hb).2 e)), ?_⟩
  refine rn_of hn (perm_list _ (fun a ha => (nm_val hQ (nm_val hP ha).2).2) (fun a b ha hb e => nm_inj hP ha hb (nm_inj hQ (nm_val hP ha).2 (nm_val hP hb).2 e))) (rn_len (rn_len hn hP) hQ) (fun i hi => rn_small (rn_len hn hP) hQ hi) fun a b ha hb => ?_
  rw [nm_list _ ha, nm_list _ hb, rn_bit (rn_len hn hP) hQ (nm_val hP ha).2 (nm_val hP hb).2, rn_bit hn hP ha hb]
/-- what is asked of a list that is a tour, bit by bit -/
theorem tour_bits {s : Int} {xs : List Int} (hp : tourP s xs) : (∀ i, i < xs.length → ∃ S : Nat, xs.getD i 0 = (S : Int) ∧ S < 2 ^ xs.length) ∧ (∀ a, a < xs.length → bt xs a a = false) ∧ (∀ a b, a < xs.length → b < xs.length → a ≠ b → bt xs a b = !bt xs b a) := by
  have hs := hp.2.1
  have hsn : s.toNat = xs.length := by omega
  refine ⟨fun i hi => ?_, fun a ha => ?_, fun a b ha hb hab => ?_⟩
  · have := tour_wins hp hi
    rw [hsn] at this
    exact ⟨_, this.1, this.2.1⟩
  · have := (hp.2.2.2 a ha).1
    rw [bit_nat hp ha] at this
    exact this
  · have key : ∀ a b, a < xs.length → b < xs.length → b < a → bt xs a b = !bt xs b a := fun a b ha hb h => by
      have := (hp.2.2.2 a ha).2 b h
      rw [bit_nat hp ha, bit_nat hp hb] at this
      show (winsN xs a).testBit b = !(winsN xs b).testBit a
      revert this
      cases (winsN xs a).testBit b <;> cases (winsN xs b).testBit a <;> simp
    rcases Nat.lt_or_gt_of_ne hab with h | h
    · rw [key b a hb ha h]; simp
    · exact key a b ha hb h
theorem bitI_bt {xs : List Int} {a b S : Nat} (h : xs.getD a 0 = (S : Int)) : bitI (xs.getD a 0) b = bt xs a b := by
  unfold bt winsN
  rw [h]
  show bitI (S : Int) b = S.testBit b
  unfold bitI
  rw [Nat.testBit_eq_decide_div_mod_eq, decide_eq_decide]
  have : (S : Int) / 2 ^ b % 2 = ((S / 2 ^ b % 2 : Nat) : Int) := by simp
  rw [this]; omega
theorem tour_of_bits {s : Int} {xs : List Int} (h1 : 1 ≤ s ∧ s ≤ 8) (h2 : (xs.length : Int) = s) (hb : ∀ i, i < xs.length → ∃ S : Nat, xs.getD i 0 = (S : Int) ∧ S < 2 ^ xs.length) (hd : ∀ a, a < xs.length → bt xs a a = false) (hx : ∀ a b, a < xs.length → b < xs.length → a ≠ b → bt xs a b = !bt xs b a) : tourP s xs := by
  refine ⟨h1, h2, fun x hx => ?_, fun a ha => ⟨?_, fun b hb' => ?_⟩⟩
  · obtain ⟨i, hi, rfl⟩ := List.getElem_of_mem hx
    obtain ⟨S, e, hS⟩ := hb i hi
    rw [show xs.getD i 0 = xs[i] by simp [hi]] at e
    rw [e, show s.toNat = xs.length by omega]
    have : ((2 : Int) ^ xs.length) = ((2 ^ xs.length : Nat) : Int) := by simp
    rw [this]; omega
  · obtain ⟨S, e, -⟩ := hb a ha
    rw [bitI_bt e]; exact hd a ha
  · obtain ⟨S, e, -⟩ := hb a ha
    obtain ⟨T, e', -⟩ := hb b (by omega)
    rw [bitI_bt e, bitI_bt e', hx a b ha (by omega) (by omega)]
    cases bt xs b a <;> simp
theorem rn_tour {s : Int} {xs ns : List Int} (hp : tourP s xs) (hP : PermP xs.length ns) : tourP s (rnL xs ns) := by
  have hl := rn_len rfl hP
  have hb := tour_bits hp
  refine tour_of_bits hp.1 (by rw [hl]; exact hp.2.1) (fun i hi => ?_) (fun a ha => ?_) (fun a b ha hb' hab => ?_)
  · rw [hl] at hi ⊢; exact rn_small rfl hP hi
  · rw [hl] at ha
    obtain ⟨p, hp', rfl⟩ := nm_surj hP ha
    rw [rn_bit rfl hP hp' hp']; exact hb.2.1 p hp'
  · rw [hl] at ha hb'
    obtain ⟨p, hp', rfl⟩ := nm_surj hP ha
    obtain ⟨q, hq', rfl⟩ := nm_surj hP hb'
    rw [rn_bit rfl hP hp' hq', rn_bit rfl hP hq' hp']
    exact hb.2.2 p q hp' hq' (fun e => hab (by rw [e]))
def idL (n : Nat) : List Int := (List.range n).map fun (a : Nat) => (a : Int)
theorem id_perm (n : Nat) : PermP n (idL n) := perm_list (fun a => a) (fun _ h => h) (fun _ _ _ _ h => h)
theorem rn_id {s : Int} {xs : List Int} (hp : tourP s xs) : rnL xs (idL xs.length) = xs := by
  refine (rn_of rfl (id_perm _) rfl (tour_bits hp).1 fun p q hp' hq => ?_).symm
  have e := fun {a : Nat} (h : a < xs.length) => nm_list (n := xs.length) (fun a => a) h
  unfold idL
  rw [e hp', e hq]
/-- back -/
theorem rn_back {s : Int} {xs p : List Int} (hp : tourP s xs) (hP : PermP xs.length p) : ∃ r, PermP xs.length r ∧ rnL (rnL xs p) r = xs := by
  have hl := rn_len rfl hP
  have hQ : PermP xs.length ((List.range xs.length).map fun i => ((invF xs.length p i : Nat) : Int)) := perm_list _ (fun a ha => (inv_spec hP ha).1) (fun a b ha hb e => by
    rw [← (inv_spec hP ha).2, ← (inv_spec hP hb).2, e])
  refine ⟨_, hQ, ?_⟩
  refine (rn_of hl hQ rfl (tour_bits hp).1 fun a b ha hb => ?_).symm
  rw [nm_list _ ha, nm_list _ hb]
  have h1 := inv_spec hP ha
  have h2 := inv_spec hP hb
  have := rn_bit rfl hP h1.1 h2.1
  rw [h1.2, h2.2] at this
  exact this.symm
end Go.Proofs.Ytajeledbmnndmaa

namespace Go.Proofs.Ytajeledbmnndmaa
open Go.RowKit Go.Sort
set_option maxRecDepth 100000
def nI (l : List Nat) : List Int := l.map fun (a : Nat) => (a : Int)
theorem nI_len (l : List Nat) : (nI l).length = l.length := by simp [nI]
theorem nI_getD {l : List Nat} {k : Nat} (h : k < l.length) : (nI l).getD k 0 = ((l.getD k 0 : Nat) : Int) := by simp [nI, h]
theorem nI_snoc (l : List Nat) (b : Nat) : nI (l ++ [b]) = nI l ++ [(b : Int)] := by simp [nI]
def lastN (way : List Nat) : Nat := way.getD (way.length - 1) 0
def cand (xs : List Int) (n : Nat) (way : List Nat) : List Nat := (memN (winsN xs (lastN way)) n).filter fun b => !way.contains b
def dfs (xs : List Int) (n : Nat) (want : List Nat → Bool) : Nat → List Nat → Option (List Nat)
  | 0, way => if want way = true then some way else none
  | m + 1, way => (cand xs n way).findSome? fun b => dfs xs n want m (way ++ [b])
theorem fs_hit {β : Type} {l : List Nat} {F : Nat → Option β} {k : Nat} {y : β} (hk : k < l.length) (h0 : ∀ j, j < k → F (l.getD j 0) = none) (hy : F (l.getD k 0) = some y) : l.findSome? F = some y := by
  have e : l = l.take k ++ l.getD k 0 :: l.drop (k + 1) := by
    rw [getD_nat hk, ← List.drop_eq_getElem_cons hk, List.take_append_drop]
  have h1 : (l.take k).findSome? F = none := by
    rw [List.findSome?_eq_none_iff]
    intro x hx
    obtain ⟨j, hj, rfl⟩ := List.getElem_of_mem hx
    rw [List.length_take] at hj
    have := h0 j (by omega)
    rw [getD_nat (show j < l.length by omega)] at this
    simpa using this
  rw [e, List.findSome?_append, h1, List.findSome?_cons, hy]
  rfl
theorem fs_miss {β : Type} {l : List Nat} {F : Nat → Option β} (h0 : ∀ j, j < l.length → F (l.getD j 0) = none) : l.findSome? F = none := by
  rw [List.findSome?_eq_none_iff]
  intro x hx
  obtain ⟨j, hj, rfl⟩ := List.getElem_of_mem hx
  have := h0 j hj
  rwa [getD_nat hj] at this
theorem dfs_len {xs : List Int} {n : Nat} {want : List Nat → Bool} : ∀ {m : Nat} {way L : List Nat}, dfs xs n want m way = some L → L.length = way.length + m := by
  intro m
  induction m with
  | zero =>
    intro way L h
    rw [dfs] at h
    split at h
    · injection h with h; subst h; rfl
    · cases h
  | succ m ih =>
    intro way L h
    rw [dfs] at h
    obtain ⟨b, -, hb⟩ := List.exists_of_findSome?_eq_some h
    have := ih hb
    rw [List.length_append, List.length_singleton] at this
    omega
def setW (way : List Nat) : Nat := way.foldl (fun s b => s ||| 2 ^ b) 0
theorem setW_snoc (l : List Nat) (b : Nat) : setW (l ++ [b]) = setW l ||| 2 ^ b := by simp [setW, List.foldl_append]
theorem take_snocN' {l : List Nat} {k : Nat} (hk : k < l.length) : l.take (k + 1) = l.take k ++ [l.getD k 0] := by
  rw [List.take_succ_eq_append_getElem hk, getD_nat hk]
theorem testBit_setW (l : List Nat) (j : Nat) : (setW l).testBit j = l.contains j := by
  have : ∀ k, k ≤ l.length → (setW (l.take k)).testBit j = (l.take k).contains j := by
    intro k
    induction k with
    | zero => intro _; simp [setW]
    | succ k ih =>
      intro hk
      rw [take_snocN' (by omega), setW_snoc, Nat.testBit_or, ih (by omega), Nat.testBit_two_pow, Bool.eq_iff_iff]
      simp
      exact ⟨fun h => h.imp id Eq.symm, fun h => h.imp id Eq.symm⟩
  have := this l.length (Nat.le_refl _)
  rwa [List.take_length] at this
theorem setW_lt {l : List Nat} {n : Nat} (h : ∀ x ∈ l, x < n) : setW l < 2 ^ n := by
  apply Nat.lt_pow_two_of_testBit
  intro i hi
  rw [testBit_setW]
  rcases q : l.contains i with _ | _
  · rfl
  · have := h i (by simpa using q); omega
theorem memN_lessW (S n : Nat) (way : List Nat) : memN (less S (setW way)) n = (memN S n).filter fun b => !way.contains b := by
  unfold memN
  rw [List.filter_filter]
  refine List.filter_congr fun x _ => ?_
  rw [testBit_less, testBit_setW, Bool.and_comm]
theorem cand_lt {xs : List Int} {n : Nat} {way : List Nat} {b : Nat} (h : b ∈ cand xs n way) : b < n ∧ (winsN xs (lastN way)).testBit b = true ∧ ¬ b ∈ way := by
  unfold cand at h
  rw [List.mem_filter] at h
  exact ⟨(mem_memN.1 h.1).1, (mem_memN.1 h.1).2, by simpa using h.2⟩
theorem or_shl'' (S a : Nat) (hS : S < 4611686018427387904) (h : a ≤ 61) : bits .or .i64 (S : Int) (wrap64 (2 ^ a)) = ((S ||| 2 ^ a : Nat) : Int) := or_shl S a hS h
set_option maxHeartbeats 1000000 in
theorem isetOf_any (v : Value) (way : List Nat) (w : World) (h : Rd w v (nI way)) (hb : ∀ x ∈ way, x < 8) :
    Calls Try.prog 115 #[v] w fun e w' => e = .returned (.int .i64 (setW way : Nat)) ∧ w = w' := by
  obtain ⟨A, c, rfl, hl, hm, hc⟩ := h
  rw [nI_len] at hl hc
  unfold maxLen at hm
  have HC := Lib.hid hc
  have HB := Lib.hid hb
  rw [nI_len]
  generalize hn : way.length = n at *
  have HN := Lib.hid hn
  clear hc hb hn
  go_enter Try.func115, Try.ntmps115
  go_wp2
  go_loop [3, 8] (fun s i => ∃ k : Nat, k ≤ n ∧ i = .int .i64 k ∧ s = .int .i64 (setW (way.take k) : Nat)) (fun _ i => n - (intOf i).toNat)
  case atStart => exact ⟨0, by omega, rfl, by simp [setW]⟩
  case round =>
    obtain ⟨k, hk, rfl, rfl⟩ := hrel
    by_cases hlt : k < n
    · obtain ⟨g, off, rfl, hg, hx⟩ := HC.out (by omega)
      have hxk := hx k hlt
      have hkl : k < way.length := by rw [HN.out]; exact hlt
      rw [nI_getD hkl] at hxk
      have hlt8 : way.getD k 0 < 8 := HB.out _ (by rw [getD_nat hkl]; exact List.getElem_mem _)
      have hs := setW_lt (l := way.take k) (n := 8) fun x hx => HB.out x (List.mem_of_mem_take hx)
      have HS : Hid (setW (way.take (k + 1)) = setW (way.take k) ||| 2 ^ way.getD k 0) := by unfold Hid; rw [take_snocN' hkl, setW_snoc]
      clear hx
      generalize way.getD k 0 = b at *
      generalize setW (way.take k) = S at *
      have hor := or_shl S b (by omega) (by omega)
      go_wp2
      go_round
      case rel => exact ⟨k + 1, by omega, by go_num, by rw [HS.out]⟩
      case measure => simp [intOf]; omega
    · obtain rfl : n = k := by omega
      have HE : Hid (way.take n = way) := List.take_of_length_le (by rw [HN.out]; exact Nat.le_refl _)
      rw [HE.out]
      go_wp2
      go_ret
      exact ⟨rfl, rfl⟩
theorem own_prefix {w : World} {base g n c : Nat} {xs : List Int} {y : Int} (hn : xs.length = n) (h : Own w base (.slice (some ⟨g, 0, none⟩) (n + 1) c) (xs ++ [y])) : Own w base (.slice (some ⟨g, 0, none⟩) n c) xs := by
  subst hn
  refine ⟨by simp, .inr ?_⟩
  rcases h.2 with ⟨e, -⟩ | ⟨g', cap, cur, e, hb, hh, hle, hm, hs, ht⟩
  · cases e
  · injection e with e1 e2 e3
    injection e1 with e1
    injection e1 with e1 _ _
    subst e1 e3
    refine ⟨g, c, cur, rfl, hb, hh, by simp at hle; omega, hm, hs, ?_⟩
    have h1 := congrArg (List.take xs.length) ht
    rw [List.take_take] at h1
    simp at h1
    simpa using h1
theorem run_append1k (w : World) (ty : TypeId) (base : Nat) (v : Value) (xs : List Int) (y : Int) (gx : Nat) (hown : Own w base v xs) (hc : w.cell? ⟨gx, 0, none⟩ = some (.int .i64 y)) (hlen : xs.length ≤ 1099511627776) (hbase : base ≤ w.heap.size) :
    ∃ g c w', (Builtin.append_ #[22, 22] ty #[v, .slice (some ⟨gx, 0, none⟩) 1 1]).run Try.prog w = .ok (.slice (some ⟨g, 0, none⟩) (xs.length + 1) c) w' ∧
      Own w' base (.slice (some ⟨g, 0, none⟩) (xs.length + 1) c) (xs ++ [y]) ∧ Own w' base v xs ∧ w.grownBy w' v.ownBlock ∧ (v = .slice (some ⟨g, 0, none⟩) xs.length c ∨ g = w.heap.size) := by
  obtain ⟨i0, hi, hz0, hz1, hz2⟩ := info_parts i64_info
  have hnews : ∀ j u, [Value.int .i64 y][j]? = some u → w.cell? ((⟨gx, 0, none⟩ : Addr).add j) = some u := by
    intro j u hj
    match j, hj with
    | 0, hj => simp at hj; subst hj; simpa [Addr.add] using hc
  have h1 : ∀ u ∈ [Value.int .i64 y], u.oneCell' = true := by intro u hu; simp at hu; subst hu; rfl
  obtain ⟨v', w', hr, h2, h3, -, h5⟩ := run_append_own_at (P := Try.prog) w base 22 ty 3 i0 (.int .i64 0) 1 8 Try.underlying22 hi hz0 hz1 hz2 rfl (by decide) v xs.length (xs.map (Value.int .i64)) hown ⟨gx, 0, none⟩ 1 1 [.int .i64 y] rfl hnews h1 (by unfold maxLen; omega) (by omega) hbase
  have h2' : Own w' base v' (xs ++ [y]) := by unfold Own; rw [List.length_append, List.map_append]; exact h2
  obtain ⟨A, c', e, -, -, hA⟩ := h2'.form
  obtain ⟨g', rfl, -, -⟩ := hA (by simp)
  rw [List.length_append, List.length_singleton] at e
  subst e
  rcases hown.2 with ⟨rfl, h0⟩ | ⟨g, cap, cur, rfl, hbg, hg, hnc, hcm, hcs, htake⟩
  · refine ⟨g', c', w', hr, h2', ?_, h3, .inr ?_⟩
    · rw [show xs = [] from List.eq_nil_of_length_eq_zero h0]; exact Own.nil_ _ _
    · rcases h5 with h | h
      · simp [Value.ownBlock] at h
      · simpa [Value.ownBlock] using h
  · by_cases hroom : xs.length + 1 ≤ cap
    · have hr' := run_append_room (P := Try.prog) w 22 ty 3 i0 Try.underlying22 hi g xs.length cap cur hg ⟨gx, 0, none⟩ 1 1 [.int .i64 y] (by rw [hz1]; rfl) hnews h1 hroom (by rw [hz1]; simp; omega)
      have e := hr.symm.trans hr'
      injection e with e1 e2
      injection e1 with e1 e3 e4
      injection e1 with e1
      injection e1 with e1 _ _
      subst e1 e4
      exact ⟨g', c', w', hr, h2', own_prefix rfl h2', h3, .inl rfl⟩
    · have hr' := run_append_grow (P := Try.prog) w 22 ty 3 i0 (.int .i64 0) Try.underlying22 hi hz0 ⟨g, 0, none⟩ xs.length cap (xs.map (Value.int .i64)) (by rw [hz1]; simp) (hown.cells (g := g) rfl) ⟨gx, 0, none⟩ 1 1 [.int .i64 y] (by rw [hz1]; rfl) hnews (by omega) (by omega) (growslice_fits (by omega) (by rw [hz2]; omega))
      have e := hr.symm.trans hr'
      injection e with e1 e2
      injection e1 with e1 e3 e4
      injection e1 with e1
      injection e1 with e1 _ _
      subst e1 e2
      exact ⟨_, c', _, hr, h2', World.ownsRow.alloc (World.ownsRow.drew hown) _, h3, .inr rfl⟩
theorem step_append1k {ops : Array Oper} {o : Oper} {a : Act} {K : Act → World → Prop} {Q : Exit → Act → World → Prop} {E : Prop} (w : World) (hgd : o.guard = none) (s x : Operand)
    (ho : o.op = .call { callee := .builtin .append, args := #[s, x], argTypes := #[22, 22] })
    (base : Nat) (v : Value) (xs : List Int) (n : Nat) (hn : xs.length = n) (y : Int) (gx : Nat) (hs : a.eval s = v) (hown : Own w base v xs) (hx : a.eval x = .slice (some ⟨gx, 0, none⟩) 1 1) (hc : w.cell? ⟨gx, 0, none⟩ = some (.int .i64 y))
    (hlen : n ≤ 1099511627776) (hbase : base ≤ w.heap.size)
    (h : ∀ g c w', Own w' base (.slice (some ⟨g, 0, none⟩) (n + 1) c) (xs ++ [y]) → Own w' base v xs → w.grownBy w' v.ownBlock → (v = .slice (some ⟨g, 0, none⟩) n c ∨ g = w.heap.size) → K (a.put o.dst (.slice (some ⟨g, 0, none⟩) (n + 1) c)) w') :
    if Region.wanted o (yielded ops a.tmps) = true then Oper.wp Try.prog o a w K Q else E := by
  subst hn
  have hw : Region.wanted o (yielded ops a.tmps) = true := by simp [Region.wanted, hgd]
  rw [if_pos hw]
  obtain ⟨g, c, w', hr, h1, h2, h3, h4⟩ := run_append1k w o.type base v xs y gx hown hc hlen hbase
  unfold Oper.wp execOp
  simp only [ho, resolve, invoke, builtin, Sem.run_bind, Sem.run_pure, Result.andThen_ok, List.map_toArray, List.map_cons, List.map_nil, hs, hx, hr]
  exact h g c w' h1 h2 h3 h4
end Go.Proofs.Ytajeledbmnndmaa

