/- Texts put together: AppR, Ren, Rnm, Pow. -/
import Derived.Test.YtcmpioalnpmpmaaMPowers02
import Derived.Test.YtcmpioalnpmpmaaMPowers01
import Derived.Deep.RegionHeld3
namespace Go.Proofs.Ytcmpioalnpmpmaa
open Go.RowKit Go.Sort

/-- a struct {int, slice} in a box that may be stored to -/
def BoxF (W : World) (g : Nat) (s : Int) (v : Value) : Prop := TBox W g s v ∧ ∀ k, W.frozen? ⟨g, k, none⟩ = false
theorem BoxF.new (w : World) (s : Int) (v : Value) (t : TypeId) : BoxF (w.alloc (.cells #[.int .i64 s, v] t)) w.heap.size s v := ⟨TBox.new w s v t, fun k => by simp⟩
theorem BoxF.gt {W : World} {g : Nat} {s : Int} {v : Value} (h : BoxF W g s v) : g < W.heap.size := World.block_lt_of_cell? W _ h.1.1
theorem BoxF.below {W W' : World} {g : Nat} {s : Int} {v : Value} (h : BoxF W g s v) (hb : Below W.heap.size W W') : BoxF W' g s v :=
  ⟨h.1.below hb, fun k => ((bcell hb).2 _ _ h.gt).trans (h.2 k)⟩
theorem BoxF.kept {W W' : World} {g : Nat} {s : Int} {v : Value} {row : Option Nat} (h : BoxF W g s v) (hg : W.grownBy W' row) (hne : some g ≠ row) : BoxF W' g s v :=
  ⟨h.1.kept hg hne, fun k => (World.frozen?_of_block (hg.block g h.gt hne)).trans (h.2 k)⟩
theorem BoxF.set1 {W : World} {g : Nat} {s : Int} {v : Value} (h : BoxF W g s v) (v' : Value) : BoxF (W.setCell ⟨g, 1, none⟩ v') g s v' :=
  ⟨⟨(World.cell?_setCell_other _ _ _ _ (by simp)).trans h.1.1, World.cell?_setCell_same _ _ _ h.1.2⟩, fun k => by have := h.2 k; simpa [go_sem] using this⟩
theorem BoxF.set01 {W : World} {g : Nat} {s : Int} {v : Value} (h : BoxF W g s v) (s' : Int) (v' : Value) : BoxF ((W.setCell ⟨g, 0, none⟩ (.int .i64 s')).setCell ⟨g, 1, none⟩ v') g s' v' :=
  ⟨⟨(World.cell?_setCell_other _ _ _ _ (by simp)).trans (World.cell?_setCell_same _ _ _ h.1.1), World.cell?_setCell_same _ _ _ ((World.cell?_setCell_other _ _ _ _ (by simp)).trans h.1.2)⟩, fun k => by have := h.2 k; simpa [go_sem] using this⟩
end Go.Proofs.Ytcmpioalnpmpmaa

namespace Go.Proofs.Ytcmpioalnpmpmaa
open Go.RowKit Go.Sort
set_option maxRecDepth 100000

/-- each number below n once -/
def PermP (n : Nat) (ns : List Int) : Prop := ns.length = n ∧ (∀ x ∈ ns, 0 ≤ x ∧ x < n) ∧ ns.Nodup
def nmN (ns : List Int) (a : Nat) : Nat := (ns.getD a 0).toNat
theorem getD_mem' {ns : List Int} {a : Nat} (h : a < ns.length) : ns.getD a 0 ∈ ns := by
  rw [show ns.getD a 0 = ns[a] by simp [h]]; exact List.getElem_mem h
theorem nm_val {n : Nat} {ns : List Int} (hp : PermP n ns) {a : Nat} (ha : a < n) : ns.getD a 0 = (nmN ns a : Int) ∧ nmN ns a < n := by
  have := hp.2.1 _ (getD_mem' (by rw [hp.1]; exact ha))
  unfold nmN; omega
theorem nm_inj {n : Nat} {ns : List Int} (hp : PermP n ns) {a b : Nat} (ha : a < n) (hb : b < n) (h : nmN ns a = nmN ns b) : a = b := by
  have h1 := (nm_val hp ha).1
  have h2 := (nm_val hp hb).1
  have ha' : a < ns.length := by rw [hp.1]; exact ha
  have hb' : b < ns.length := by rw [hp.1]; exact hb
  have e : ns[a] = ns[b] := by
    have e1 : ns.getD a 0 = ns[a] := by simp [ha']
    have e2 : ns.getD b 0 = ns[b] := by simp [hb']
    rw [← e1, ← e2, h1, h2, h]
  have hpw := List.pairwise_iff_getElem.1 hp.2.2
  rcases Nat.lt_trichotomy a b with h | h | h
  · exact absurd e (hpw a b ha' hb' h)
  · exact h
  · exact absurd e.symm (hpw b a hb' ha' h)
theorem nm_surj {n : Nat} {ns : List Int} (hp : PermP n ns) {i : Nat} (hi : i < n) : ∃ a, a < n ∧ nmN ns a = i := by
  refine Classical.byContradiction fun hc => ?_
  have hno : (i : Int) ∉ ns := fun h => by
    obtain ⟨a, ha, e⟩ := List.mem_iff_getElem.1 h
    refine hc ⟨a, by rw [← hp.1]; exact ha, ?_⟩
    unfold nmN
    rw [show ns.getD a 0 = ns[a] by simp [ha], e]; rfl
  have := nodup_le n ((i : Int) :: ns) (List.nodup_cons.2 ⟨hno, hp.2.2⟩) (fun y hy => by
    rw [List.mem_cons] at hy
    rcases hy with rfl | hy
    · omega
    · exact hp.2.1 y hy)
  rw [List.length_cons, hp.1] at this
  omega
/-- behind the pairs before (a, b) -/
def rnF (xs ns : List Int) (n : Nat) (N : List Int) (a b : Nat) : Prop :=
  N.length = n ∧ (∀ i, i < n → ∃ S : Nat, N.getD i 0 = (S : Int) ∧ S < 2 ^ n) ∧ ∀ p q, p < n → q < n → (N.getD (nmN ns p) 0).toNat.testBit (nmN ns q) = (decide (p < a ∨ (p = a ∧ q < b)) && (winsN xs p).testBit q)
theorem rnF_start {xs ns : List Int} {n : Nat} : rnF xs ns n (List.replicate n 0) 0 0 := by
  have e : ∀ i, (List.replicate n (0 : Int)).getD i 0 = 0 := fun i => by
    by_cases h : i < n
    · simp [h]
    · simp [Nat.le_of_not_lt h]
  refine ⟨by simp, fun i _ => ⟨0, e i, Nat.two_pow_pos n⟩, fun p q _ _ => ?_⟩
  rw [e]; simp
theorem rnF_no {xs ns N : List Int} {n a b : Nat} (h : rnF xs ns n N a b) (hb : (winsN xs a).testBit b = false) : rnF xs ns n N a (b + 1) := by
  refine ⟨h.1, h.2.1, fun p q hp hq => ?_⟩
  rw [h.2.2 p q hp hq]
  by_cases e : p = a ∧ q = b
  · obtain ⟨rfl, rfl⟩ := e; rw [hb]; simp
  · congr 1; rw [decide_eq_decide]; omega
theorem rnF_next {xs ns N : List Int} {n a : Nat} (h : rnF xs ns n N a n) : rnF xs ns n N (a + 1) 0 := by
  refine ⟨h.1, h.2.1, fun p q hp hq => ?_⟩
  rw [h.2.2 p q hp hq]
  congr 1; rw [decide_eq_decide]; omega
theorem rnF_yes {xs ns N : List Int} {n a b S : Nat} (hP : PermP n ns) (hn : n ≤ 8) (h : rnF xs ns n N a b) (ha : a < n) (hb : b < n) (hS : N.getD (nmN ns a) 0 = (S : Int)) (hbit : (winsN xs a).testBit b = true) :
    S < 2 ^ n ∧ S.testBit (nmN ns b) = false ∧ rnF xs ns n (N.set (nmN ns a) ((S ||| 2 ^ nmN ns b : Nat) : Int)) a (b + 1) := by
  have va := (nm_val hP ha).2
  have vb := (nm_val hP hb).2
  obtain ⟨S', e, hlt⟩ := h.2.1 _ va
  obtain rfl : S = S' := by rw [hS] at e; omega
  refine ⟨hlt, ?_, ?_⟩
  · have := h.2.2 a b ha hb
    rw [hS] at this
    simpa using this
  · refine ⟨by rw [List.length_set]; exact h.1, fun i hi => ?_, fun p q hp hq => ?_⟩
    · by_cases hi2 : i = nmN ns a
      · subst hi2
        rw [getD_set_same _ (by rw [h.1]; exact hi)]
        exact ⟨_, rfl, Nat.or_lt_two_pow hlt (Nat.pow_lt_pow_right (by decide) vb)⟩
      · rw [getD_set_other _ (Ne.symm hi2)]; exact h.2.1 i hi
    · by_cases hpa : p = a
      · subst hpa
        rw [getD_set_same _ (by rw [h.1]; exact va)]
        have h1 := h.2.2 p q hp hq
        rw [hS] at h1
        have e3 : (((S ||| 2 ^ nmN ns b : Nat) : Int)).toNat = S ||| 2 ^ nmN ns b := rfl
        have e4 : ((S : Int)).toNat = S := rfl
        rw [e4] at h1
        rw [e3, Nat.testBit_or, Nat.testBit_two_pow, h1]
        by_cases hqb : q = b
        · subst hqb; rw [hbit]; simp
        · have : decide (nmN ns b = nmN ns q) = false := by
            rw [decide_eq_false_iff_not]; intro e; exact hqb (nm_inj hP hq hb e.symm)
          rw [this, Bool.or_false]
          congr 1; rw [decide_eq_decide]; omega
      · have hne : nmN ns a ≠ nmN ns p := fun e => hpa (nm_inj hP hp ha e.symm)
        rw [getD_set_other _ hne, h.2.2 p q hp hq]
        congr 1; rw [decide_eq_decide]; omega
theorem rnF_unique {xs ns N M : List Int} {n : Nat} (hP : PermP n ns) (h1 : rnF xs ns n N n 0) (h2 : rnF xs ns n M n 0) : N = M :=
  list_ext0 h1.1 h2.1 fun i hi => by
    obtain ⟨S, e1, l1⟩ := h1.2.1 i hi
    obtain ⟨T, e2, l2⟩ := h2.2.1 i hi
    rw [e1, e2]
    congr 1
    refine Nat.eq_of_testBit_eq fun j => ?_
    by_cases hj : j < n
    · obtain ⟨p, hp, rfl⟩ := nm_surj hP hi
      obtain ⟨q, hq, rfl⟩ := nm_surj hP hj
      have a1 := h1.2.2 p q hp hq
      have a2 := h2.2.2 p q hp hq
      rw [e1] at a1
      rw [e2] at a2
      exact a1.trans a2.symm
    · have hle : 2 ^ n ≤ 2 ^ j := Nat.pow_le_pow_right (by decide) (by omega)
      rw [Nat.testBit_lt_two_pow (Nat.lt_of_lt_of_le l1 hle), Nat.testBit_lt_two_pow (Nat.lt_of_lt_of_le l2 hle)]
open Classical in
noncomputable def rnL (xs ns : List Int) : List Int := if h : ∃ N, rnF xs ns xs.length N xs.length 0 then Classical.choose h else []
theorem rnL_eq {xs ns N : List Int} {n : Nat} (hn : xs.length = n) (hP : PermP n ns) (h : rnF xs ns n N n 0) : N = rnL xs ns := by
  subst hn
  have hex : ∃ N, rnF xs ns xs.length N xs.length 0 := ⟨N, h⟩
  unfold rnL
  rw [dif_pos hex]
  exact rnF_unique hP h (Classical.choose_spec hex)
set_option maxHeartbeats 4000000 in
theorem renamed_any (s : Int) (sl : Value) (xs ns : List Int) (nv : Value) (w : World) (h : Rd w sl xs) (hp : tourP s xs) (h2 : Rd w nv ns) (hP : PermP xs.length ns) :
    Calls Try.prog 111 #[.agg #[.int .i64 s, sl], nv] w fun e w' => ∃ sl', e = .returned (.agg #[.int .i64 s, sl']) ∧ Own w' w.heap.size sl' (rnL xs ns) ∧ rnF xs ns xs.length (rnL xs ns) xs.length 0 ∧ Below w.heap.size w w' := by
  obtain ⟨i0, hi, hz0, hz1, hz2⟩ := info_parts i64_info
  obtain ⟨g, off, c, rfl, hm, hg, hx⟩ := tour_cells h hp
  unfold maxLen at hm
  have hs := hp.1
  have hsl := hp.2.1
  have HX := Lib.hid hx
  have HW := Lib.hid (fun j hj => (tour_wins hp (a := j) hj).2.2)
  obtain ⟨B, d, rfl, hdl, hdm, hdc⟩ := h2
  rw [hP.1] at hdl hdc ⊢
  obtain ⟨gn, on, rfl, hgn, hnx⟩ := hdc (by omega)
  unfold maxLen at hdm
  have HNX := Lib.hid hnx
  clear hp h hx hdc hnx
  generalize hn : xs.length = n at *
  obtain rfl : s = n := by omega
  have HN := Lib.hid hn
  have HPP := Lib.hid hP
  clear hn hP
  go_enter Try.func111, Try.ntmps111
  go_wp2_with fail
  have b0 := (below_alloc1 w (.cells #[.int .i64 n, .slice (some ⟨g, off, none⟩) n c] 25)).alloc (by simp) (.cells #[.int .i64 0, .slice none 0 0] 25)
  have x0 := (TBox.new w n (.slice (some ⟨g, off, none⟩) n c) 25).below (below_alloc1 _ (.cells #[.int .i64 0, .slice none 0 0] 25))
  have t0 := BoxF.new (w.alloc (.cells #[.int .i64 n, .slice (some ⟨g, off, none⟩) n c] 25)) 0 (.slice none 0 0) 25
  simp only [World.size_alloc] at t0
  generalize (w.alloc (.cells #[.int .i64 n, .slice (some ⟨g, off, none⟩) n c] 25)).alloc (.cells #[.int .i64 0, .slice none 0 0] 25) = w0 at *
  have HX0 := Lib.hid x0
  have HB0 := Lib.hid b0
  have HT0 := Lib.hid t0
  clear x0 b0 t0
  have y0_0 := HX0.out.1
  have y1_0 := HX0.out.2
  have hgt0 : w.heap.size + 1 < w0.heap.size := HT0.out.gt
  have bA := below_alloc1 w0 (.cells #[.int .i64 0, .slice none 0 0] 25)
  have hXA := HX0.out.below bA
  have hTA := HT0.out.below bA
  have ya0 := hXA.1
  have ya1 := hXA.2
  have hUA := BoxF.new w0 0 (.slice none 0 0) 25
  have BA : Below w.heap.size w (w0.alloc (.cells #[.int .i64 0, .slice none 0 0] 25)).drew := (let q := Below.then HB0.out bA; ⟨q.os, q.tape, q.output, q.size, q.block⟩)
  have B0d : Below w.heap.size w w0.drew := ⟨HB0.out.os, HB0.out.tape, HB0.out.output, HB0.out.size, HB0.out.block⟩
  -- the row made first, or the box laid first
  obtain ⟨W1, hrun1, r1, gr1⟩ := run_make_full (P := Try.prog) w0.drew w0.heap.size 23 3 i0 (.int .i64 0) 1 Try.underlying23 hi hz0 hz1 .i64 .i64 n (by rw [hz2]; omega) (by unfold maxLen; omega) (Nat.le_refl _)
  obtain ⟨W2, hrun2, r2, gr2⟩ := run_make_full (P := Try.prog) (w0.alloc (.cells #[.int .i64 0, .slice none 0 0] 25)).drew w0.heap.size 23 3 i0 (.int .i64 0) 1 Try.underlying23 hi hz0 hz1 .i64 .i64 n (by rw [hz2]; omega) (by unfold maxLen; omega) (show w0.heap.size ≤ (w0.alloc (.cells #[.int .i64 0, .slice none 0 0] 25)).heap.size by simp)
  have X1 := (show TBox w0.drew w.heap.size n (.slice (some ⟨g, off, none⟩) n c) from HX0.out).kept gr1 (by simp)
  have T1 := Lib.hid ((show BoxF w0.drew (w.heap.size + 1) 0 (.slice none 0 0) from HT0.out).kept gr1 (by simp))
  have B1 := Lib.hid (Below.grown B0d gr1 B0d.size (by simp))
  have X2 := (show TBox (w0.alloc (.cells #[.int .i64 0, .slice none 0 0] 25)).drew w.heap.size n (.slice (some ⟨g, off, none⟩) n c) from hXA).kept gr2 (by simp)
  have T2 := Lib.hid ((show BoxF (w0.alloc (.cells #[.int .i64 0, .slice none 0 0] 25)).drew (w.heap.size + 1) 0 (.slice none 0 0) from hTA).kept gr2 (by simp))
  have U2 := (show BoxF (w0.alloc (.cells #[.int .i64 0, .slice none 0 0] 25)).drew w0.heap.size 0 (.slice none 0 0) from hUA).kept gr2 (by simp)
  have B2 := Lib.hid (Below.grown BA gr2 BA.size (by simp))
  rw [ints_made'] at r1 r2
  have O1 : Hid (Own W1 w0.heap.size (.slice (some ⟨w0.heap.size, 0, none⟩) n n) (List.replicate n 0)) := by unfold Hid Own; rw [List.length_replicate]; exact r1
  have O2' : Own W2 w0.heap.size (.slice (some ⟨(w0.alloc (.cells #[.int .i64 0, .slice none 0 0] 25)).heap.size, 0, none⟩) n n) (List.replicate n 0) := by unfold Own; rw [List.length_replicate]; exact r2
  simp only [World.size_alloc] at O2'
  have O2 := Lib.hid O2'
  have hu0 := U2.1.1
  have hu1 := U2.1.2
  have hf0 := U2.2 0
  have hf1 := U2.2 1
  have q10 := X1.1
  have q11 := X1.2
  have q20 := X2.1
  have q21 := X2.2
  have z1 := X1.below (below_alloc1 W1 (.cells #[.int .i64 0, .slice none 0 0] 25))
  have q30 := z1.1
  have q31 := z1.2
  have z2 := X1.below (below_alloc1 W1 (.cells #[.int .i64 n, .slice (some ⟨w0.heap.size, 0, none⟩) n n] 25))
  have q40 := z2.1
  have q41 := z2.2
  have z3 := (X2.kept (setCell_grown _ ⟨w0.heap.size, 0, none⟩ (.int .i64 n)) (by simp; omega)).kept (setCell_grown _ ⟨w0.heap.size, 1, none⟩ (.slice (some ⟨w0.heap.size + 1, 0, none⟩) n n)) (by simp; omega)
  have q50 := z3.1
  have q51 := z3.2
  have hs1 := gr1.size
  have Hs1 : w0.heap.size < W1.heap.size := (World.ownsRow.lt r1 w0.heap.size rfl).2
  clear O2' bA hXA hTA hUA BA B0d r1 r2 gr1 gr2 X1 X2 z1 z2 z3
  go_region_held3 (fun W => W.cell? ⟨w.heap.size, 0, none⟩ = some (.int .i64 n) ∧ W.cell? ⟨w.heap.size, 1, none⟩ = some (.slice (some ⟨g, off, none⟩) n c))
    (first | exact ⟨y0_0, y1_0⟩ | exact ⟨ya0, ya1⟩ | exact ⟨q10, q11⟩ | exact ⟨q20, q21⟩ | exact ⟨q30, q31⟩ | exact ⟨q40, q41⟩ | exact ⟨q50, q51⟩)
    (first
      | (fail))
  all_goals
    clear hrun1 hrun2 y0_0 y1_0 ya0 ya1 q10 q11 q20 q21
    first
      | (have hck : W1 = W1 := rfl
         have HU := Lib.hid (BoxF.new W1 n (.slice (some ⟨w0.heap.size, 0, none⟩) n n) 25)
         have b2 := below_alloc1 W1 (.cells #[.int .i64 n, .slice (some ⟨w0.heap.size, 0, none⟩) n n] 25)
         have HT := Lib.hid (T1.out.below b2)
         have HO := Lib.hid (O1.out.below b2)
         have HB := Lib.hid (Below.then B1.out b2)
         have HXW := Lib.hid (show TBox _ w.heap.size n (.slice (some ⟨g, off, none⟩) n c) from ⟨q40, q41⟩)
         have hgu : w.heap.size + 1 < W1.heap.size ∧ W1.heap.size ≠ w0.heap.size ∧ w.heap.size + 1 < w0.heap.size := by omega
         clear b2 O1 T1 B1 O2 T2 B2 q30 q31 q40 q41 q50 q51 hu0 hu1 hf0 hf1 U2 Hs1 hs1
         generalize hWW : W1.alloc (.cells #[.int .i64 n, .slice (some ⟨w0.heap.size, 0, none⟩) n n] 25) = W at HU HT HO HB HXW ⊢
         obtain ⟨gu, hgue⟩ : ∃ gu, gu = W1.heap.size := ⟨_, rfl⟩
         rw [← hgue] at HU hgu ⊢
         obtain ⟨gl, hgle⟩ : ∃ gl, gl = w0.heap.size := ⟨_, rfl⟩
         rw [← hgle] at HU HO hgu ⊢
         have hcheck : (Value.pointer (some ⟨gu, 0, none⟩)) = Value.pointer (some ⟨W1.heap.size, 0, none⟩) := by rw [hgue]
         clear hcheck hgle hgue hWW hck hgt0
         clear HX0 HT0 HB0
         skip)
      | (have HU := Lib.hid (U2.set01 n (.slice (some ⟨w0.heap.size + 1, 0, none⟩) n n))
         have HT := Lib.hid ((T2.out.kept (setCell_grown _ ⟨w0.heap.size, 0, none⟩ (.int .i64 n)) (by simp; omega)).kept (setCell_grown _ ⟨w0.heap.size, 1, none⟩ (.slice (some ⟨w0.heap.size + 1, 0, none⟩) n n)) (by simp; omega))
         have HO := Lib.hid ((O2.out.kept (setCell_grown _ ⟨w0.heap.size, 0, none⟩ (.int .i64 n)) (by right; simp [Value.ownBlock])).kept (setCell_grown _ ⟨w0.heap.size, 1, none⟩ (.slice (some ⟨w0.heap.size + 1, 0, none⟩) n n)) (by right; simp [Value.ownBlock]))
         have HB := Lib.hid ((B2.out.setCell (p := ⟨w0.heap.size, 0, none⟩) (show w.heap.size ≤ w0.heap.size by omega) (.int .i64 n)).setCell (p := ⟨w0.heap.size, 1, none⟩) (show w.heap.size ≤ w0.heap.size by omega) (.slice (some ⟨w0.heap.size + 1, 0, none⟩) n n))
         have HXW := Lib.hid (show TBox _ w.heap.size n (.slice (some ⟨g, off, none⟩) n c) from ⟨q50, q51⟩)
         have hgu : w.heap.size + 1 < w0.heap.size ∧ w0.heap.size ≠ w0.heap.size + 1 ∧ w.heap.size + 1 < w0.heap.size + 1 := by omega
         clear O1 T1 B1 O2 T2 B2 q30 q31 q40 q41 q50 q51 hu0 hu1 hf0 hf1 U2 Hs1 hs1
         generalize hWW : ((W2.setCell ⟨w0.heap.size, 0, none⟩ (.int .i64 n)).setCell ⟨w0.heap.size, 1, none⟩ (.slice (some ⟨w0.heap.size + 1, 0, none⟩) n n)) = W at HU HT HO HB HXW ⊢
         obtain ⟨gl, hgle⟩ : ∃ gl, gl = w0.heap.size + 1 := ⟨_, rfl⟩
         rw [← hgle] at HU HO hgu ⊢
         obtain ⟨gu, hgue⟩ : ∃ gu, gu = w0.heap.size := ⟨_, rfl⟩
         rw [← hgue] at HU hgu ⊢
         have HO := Lib.hid (HO.out.mono (show w.heap.size ≤ _ by omega))
         clear hgle hgue hWW hgt0
         clear HX0 HT0 HB0
         skip)
    obtain ⟨hgu1, hgu2, hgu3⟩ := hgu
    have HO := Lib.hid (show Own W w.heap.size (.slice (some ⟨gl, 0, none⟩) n n) (List.replicate n 0) from HO.out.mono (by first | exact Nat.le_refl _ | omega))
    have yw0 := HXW.out.1
    have yw1 := HXW.out.2
    go_wp2
    go_loopw [18] (fun i wr => ∃ (a : Nat) (N : List Int), a ≤ n ∧ i = .int .i64 a ∧ Own wr w.heap.size (.slice (some ⟨gl, 0, none⟩) n n) N ∧ Hid (rnF xs ns n N a 0) ∧ BoxF wr gu n (.slice (some ⟨gl, 0, none⟩) n n) ∧ BoxF wr (w.heap.size + 1) 0 (.slice none 0 0) ∧ TBox wr w.heap.size n (.slice (some ⟨g, off, none⟩) n c) ∧ Below w.heap.size w wr) (fun i _ => n - (intOf i).toNat)
    case atStart => exact ⟨0, _, by omega, rfl, HO.out, rnF_start, HU.out, HT.out, HXW.out, HB.out⟩
    case round =>
      obtain ⟨wa, rfl⟩ : ∃ x, x = wr := ⟨_, rfl⟩
      obtain ⟨a, N, ha, rfl, hown, HP, hu, ht, hx, hb⟩ := hrel
      have HOa := Lib.hid hown
      have HUa := Lib.hid hu
      have HTa := Lib.hid ht
      have HXa := Lib.hid hx
      have HBa := Lib.hid hb
      have y0 := hx.1
      have y1 := hx.2
      clear hown hu ht hx hb HO HU HT HXW HB yw0 yw1
      by_cases hlta : a < n
      · have hxa := (HBa.out.cell (p := ⟨g, off + a, none⟩) hg).trans (HX.out a hlta)
        have h256 := HW.out a hlta
        go_wp2
        go_loopw [25] (fun i wr => ∃ (b : Nat) (N : List Int), b ≤ n ∧ i = .int .i64 b ∧ Own wr w.heap.size (.slice (some ⟨gl, 0, none⟩) n n) N ∧ Hid (rnF xs ns n N a b) ∧ BoxF wr gu n (.slice (some ⟨gl, 0, none⟩) n n) ∧ BoxF wr (w.heap.size + 1) 0 (.slice none 0 0) ∧ TBox wr w.heap.size n (.slice (some ⟨g, off, none⟩) n c) ∧ Below w.heap.size w wr) (fun i _ => n - (intOf i).toNat)
        case atStart => exact ⟨0, N, by omega, rfl, HOa.out, HP, HUa.out, HTa.out, HXa.out, HBa.out⟩
        case round =>
          obtain ⟨b, M, hbn, rfl, hown, HP2, hu, ht, hx, hb⟩ := hrel
          have HO := Lib.hid hown
          have HU := Lib.hid hu
          have HT := Lib.hid ht
          have HX2 := Lib.hid hx
          have HB := Lib.hid hb
          clear hown hu ht hx hb y0 y1 hxa
          by_cases hltb : b < n
          · have hbit := bit_test (winsN xs a) b
            rcases hq : (winsN xs a).testBit b with _ | _
            · rw [hq] at hbit
              have HR := Lib.hid (rnF_no HP2.out hq)
              go_wp2
              go_roundw
              case rel => exact ⟨b + 1, M, by omega, by go_num, HO.out, HR.out, HU.out, HT.out, HX2.out, HB.out⟩
              case measure => simp [intOf]; omega
            · rw [hq] at hbit
              obtain ⟨na, va⟩ := nm_val HPP.out hlta
              obtain ⟨nb, vb⟩ := nm_val HPP.out hltb
              obtain ⟨S, hS, -⟩ := HP2.out.2.1 _ va
              obtain ⟨hSn, hSb, hYES⟩ := rnF_yes HPP.out (by omega) HP2.out hlta hltb hS hq
              have HY := Lib.hid hYES
              have hp8 := pow_le (n := n) (by omega)
              have cna := (HB.out.cell (p := ⟨gn, on + a, none⟩) hgn).trans (HNX.out a hlta)
              have cnb := (HB.out.cell (p := ⟨gn, on + b, none⟩) hgn).trans (HNX.out b hltb)
              rw [na] at cna
              rw [nb] at cnb
              have hMl := HP2.out.1
              have za := (HO.out.at1 hMl (by omega)).1 _ va
              rw [hS] at za
              have hor := or_shl S (nmN ns b) (by omega) (by omega)
              have HADD := Lib.hid hor
              have hY2 := HY.out
              have HS := Lib.hid hS
              clear hYES hS hSb na nb
              generalize hA : nmN ns a = A at *
              generalize hBB : nmN ns b = B' at *
              have HA := Lib.hid hA
              have HBB := Lib.hid hBB
              clear hA hBB
              generalize hX : S ||| 2 ^ B' = X at *
              have HXX := Lib.hid hX
              clear hX
              go_wp2_with fail
              have c1 := cell_regrown HU.out.1.2
              have c2 := cell_regrown za
              have c3 := cell_regrown cna
              have c4 := cell_regrown cnb
              clear za cna cnb hbit
              refine wp_region_below_tail 15 (by kernel_rfl) (by kernel_rfl) ?_
              simp only [List.take_succ_cons, List.take_zero, List.drop_succ_cons, List.drop_zero]
              repeat (go_big_quiet_step (first | (with_reducible fail)))
              refine wpQuiet_nil ?_
              intro wq hbq0
              have hbq := Lib.hid hbq0
              clear hbq0
              clear c1 c2 c3 c4 hor
              have O2 := HO.out.below hbq.out
              obtain ⟨hx2, hf2⟩ := O2.at1 hMl (by omega)
              have za := hx2 A va
              have fa := hf2 A
              have HO3 := Lib.hid (O2.set_ hMl A (X : Int)).1
              have HU3 := Lib.hid ((HU.out.below hbq.out).kept (setCell_grown _ ⟨gl, A, none⟩ (.int .i64 X)) (by simp; omega))
              have HT3 := Lib.hid ((HT.out.below hbq.out).kept (setCell_grown _ ⟨gl, A, none⟩ (.int .i64 X)) (by simp; omega))
              have HX3 := Lib.hid ((HX2.out.below hbq.out).kept (setCell_grown _ ⟨gl, A, none⟩ (.int .i64 X)) (by simp; omega))
              have HB3 := Lib.hid ((Below.then HB.out hbq.out).setCell (p := ⟨gl, A, none⟩) (show w.heap.size ≤ gl by omega) (.int .i64 X))
              clear hx2 hf2 O2 HO HU HT HX2 HB hbq
              go_wp2
              go_roundw
              case rel =>
                first | rw [HADD.out] | skip
                exact ⟨b + 1, M.set A X, by omega, by go_num, HO3.out, hY2, HU3.out, HT3.out, HX3.out, HB3.out⟩
              case measure => simp [intOf]; omega
          · obtain rfl : n = b := by omega
            have HR := Lib.hid (rnF_next HP2.out)
            go_wp2
            go_roundw
            case rel => exact ⟨a + 1, M, by omega, by go_num, HO.out, HR.out, HU.out, HT.out, HX2.out, HB.out⟩
            case measure => simp [intOf]; omega
      · obtain rfl : n = a := by omega
        have HE := Lib.hid (rnL_eq HN.out HPP.out HP.out)
        have u0 := HUa.out.1.1
        have u1 := HUa.out.1.2
        have v0 := HTa.out.1.1
        have v1 := HTa.out.1.2
        have f0 := HTa.out.2 0
        have f1 := HTa.out.2 1
        have hgu4 : gu ≠ w.heap.size + 1 := by omega
        have HOx := Lib.hid ((HOa.out.kept (setCell_grown _ ⟨w.heap.size + 1, 0, none⟩ (.int .i64 n)) (by right; simp [Value.ownBlock]; omega)).kept (setCell_grown _ ⟨w.heap.size + 1, 1, none⟩ (.slice (some ⟨gl, 0, none⟩) n n)) (by right; simp [Value.ownBlock]; omega))
        have HBx := Lib.hid ((HBa.out.setCell (p := ⟨w.heap.size + 1, 0, none⟩) (by simp) (.int .i64 n)).setCell (p := ⟨w.heap.size + 1, 1, none⟩) (by simp) (.slice (some ⟨gl, 0, none⟩) n n))
        have R0 : Hid (((wa.setCell ⟨w.heap.size + 1, 0, none⟩ (.int .i64 n)).setCell ⟨w.heap.size + 1, 1, none⟩ (.slice (some ⟨gl, 0, none⟩) n n)).cell? ⟨w.heap.size + 1, 0, none⟩ = some (.int .i64 n)) := (World.cell?_setCell_other _ _ _ _ (by simp)).trans (World.cell?_setCell_same _ _ _ v0)
        have R1 : Hid (((wa.setCell ⟨w.heap.size + 1, 0, none⟩ (.int .i64 n)).setCell ⟨w.heap.size + 1, 1, none⟩ (.slice (some ⟨gl, 0, none⟩) n n)).cell? ⟨w.heap.size + 1, 1, none⟩ = some (.slice (some ⟨gl, 0, none⟩) n n)) := World.cell?_setCell_same _ _ _ ((World.cell?_setCell_other _ _ _ _ (by simp)).trans v1)
        clear y0 y1
        go_wp2
        have r0 := R0.out
        have r1 := R1.out
        refine bodyPost_ret (v := .agg #[.int .i64 n, .slice (some ⟨gl, 0, none⟩) n n]) (by simp only [results, Try.results111]; simp [go_sem, r0, r1]) rfl ⟨_, rfl, ?_, ?_, HBx.out⟩
        · rw [← HE.out]; exact HOx.out
        · rw [← HE.out]; exact HP.out
end Go.Proofs.Ytcmpioalnpmpmaa

namespace Go.Proofs.Ytcmpioalnpmpmaa
open Go.RowKit Go.Sort
set_option maxRecDepth 100000

/-! renamed tours -/
abbrev bt (xs : List Int) (a b : Nat) : Bool := (winsN xs a).testBit b
theorem nm_list {n : Nat} (f : Nat → Nat) {a : Nat} (h : a < n) : nmN ((List.range n).map fun a => (f a : Int)) a = f a := by
  unfold nmN; simp [h]
theorem perm_list {n : Nat} (f : Nat → Nat) (h1 : ∀ a, a < n → f a < n) (h2 : ∀ a b, a < n → b < n → f a = f b → a = b) : PermP n ((List.range n).map fun a => (f a : Int)) := by
  refine ⟨by simp, fun x hx => ?_, ?_⟩
  · obtain ⟨a, ha, rfl⟩ := List.mem_map.1 hx
    rw [List.mem_range] at ha
    have := h1 a ha
    omega
  · unfold List.Nodup
    rw [List.pairwise_iff_getElem]
    intro i j hi hj hij e
    simp only [List.length_map, List.length_range] at hi hj
    simp only [List.getElem_map, List.getElem_range] at e
    have := h2 i j hi hj (by exact_mod_cast e)
    omega
open Classical in
noncomputable def invF (n : Nat) (ns : List Int) (i : Nat) : Nat := if h : ∃ a, a < n ∧ nmN ns a = i then Classical.choose h else 0
theorem inv_spec {n : Nat} {ns : List Int} (hP : PermP n ns) {i : Nat} (hi : i < n) : invF n ns i < n ∧ nmN ns (invF n ns i) = i := by
  have hx := nm_surj hP hi
  unfold invF
  rw [dif_pos hx]
  exact Classical.choose_spec hx
theorem inv_nm {n : Nat} {ns : List Int} (hP : PermP n ns) {a : Nat} (ha : a < n) : invF n ns (nmN ns a) = a := by
  have h := inv_spec hP (nm_val hP ha).2
  exact nm_inj hP h.1 ha h.2
theorem rn_exists {xs ns : List Int} {n : Nat} (hn : xs.length = n) (hP : PermP n ns) : rnF xs ns n (rnL xs ns) n 0 := by
  have h : rnF xs ns n ((List.range n).map fun i => ((setOf (fun j => bt xs (invF n ns i) (invF n ns j)) n : Nat) : Int)) n 0 := by
    have e : ∀ i, i < n → ((List.range n).map fun i => ((setOf (fun j => bt xs (invF n ns i) (invF n ns j)) n : Nat) : Int)).getD i 0 = ((setOf (fun j => bt xs (invF n ns i) (invF n ns j)) n : Nat) : Int) := fun i hi => by simp [hi]
    refine ⟨by simp, fun i hi => ⟨_, e i hi, setOf_lt _ _⟩, fun p q hp hq => ?_⟩
    rw [e _ (nm_val hP hp).2]
    show (setOf (fun j => bt xs (invF n ns (nmN ns p)) (invF n ns j)) n).testBit (nmN ns q) = _
    rw [testBit_setOf, inv_nm hP hp, inv_nm hP hq]
    simp [hp, (nm_val hP hq).2]
  have e := rnL_eq hn hP h
  rw [e] at h
  exact h
theorem rn_len {xs ns : List Int} {n : Nat} (hn : xs.length = n) (hP : PermP n ns) : (rnL xs ns).length = n := (rn_exists hn hP).1
theorem rn_bit {xs ns : List Int} {n : Nat} (hn : xs.length = n) (hP : PermP n ns) {p q : Nat} (hp : p < n) (hq : q < n) : bt (rnL xs ns) (nmN ns p) (nmN ns q) = bt xs p q := by
  have := (rn_exists hn hP).2.2 p q hp hq
  unfold bt winsN at *
  rw [this]
  simp [hp]
theorem rn_of {xs ns N : List Int} {n : Nat} (hn : xs.length = n) (hP : PermP n ns) (h1 : N.length = n) (h2 : ∀ i, i < n → ∃ S : Nat, N.getD i 0 = (S : Int) ∧ S < 2 ^ n) (h3 : ∀ p q, p < n → q < n → bt N (nmN ns p) (nmN ns q) = bt xs p q) : N = rnL xs ns :=
  rnL_eq hn hP ⟨h1, h2, fun p q hp hq => by
    have := h3 p q hp hq
    unfold bt winsN at *
    rw [this]; simp [hp]⟩
theorem rn_small {xs ns : List Int} {n : Nat} (hn : xs.length = n) (hP : PermP n ns) {i : Nat} (hi : i < n) : ∃ S : Nat, (rnL xs ns).getD i 0 = (S : Int) ∧ S < 2 ^ n := (rn_exists hn hP).2.1 i hi
/-- one renaming behind another -/
theorem rn_comp {xs p q : List Int} {n : Nat} (hn : xs.length = n) (hP : PermP n p) (hQ : PermP n q) : ∃ r, PermP n r ∧ rnL (rnL xs p) q = rnL xs r := by
  refine ⟨(List.range n).map fun a => ((nmN q (nmN p a) : Nat) : Int), perm_list _ (fun a ha => (nm_val hQ (nm_val hP ha).2).2) (fun a b ha hb e => nm_inj hP ha hb (nm_inj hQ (nm_val hP ha).2 (nm_val hP hb).2 e)), ?_⟩
  refine rn_of hn (perm_list _ (fun a ha => (nm_val hQ (nm_val hP ha).2).2) (fun a b ha hb e => nm_inj hP ha hb (nm_inj hQ (nm_val hP ha).2 (nm_val hP hb).2 e))) (rn_len (rn_len hn hP) hQ) (fun i hi => rn_small (rn_len hn hP) hQ hi) fun a b ha hb => ?_
  rw [nm_list _ ha, nm_list _ hb, rn_bit (rn_len hn hP) hQ (nm_val hP ha).2 (nm_val hP hb).2, rn_bit hn hP ha hb]
/-- what is asked of a list that is a tour, bit by bit -/
theorem tour_bits {s : Int} {xs : List Int} (hp : tourP s xs) : (∀ i, i < xs.length → ∃ S : Nat, xs.getD i 0 = (S : Int) ∧ S < 2 ^ xs.length) ∧ (∀ a, a < xs.length → bt xs a a = false) ∧ (∀ a b, a < xs.length → b < xs.length → a ≠ b → bt xs a b = !bt xs b a) := by
  have hs := hp.2.1
  have hsn : s.toNat = xs.length := by omega
  refine ⟨fun i hi => ?_, fun a ha => ?_, fun a b ha hb hab => ?_⟩
  · have := tour_wins hp hi
    rw [hsn] at this
    exact ⟨_, this.1, this.2.1⟩
  · have := (hp.2.2.2 a ha).1
    rw [bit_nat hp ha] at this
    exact this
  · have key : ∀ a b, a < xs.length → b < xs.length → b < a → bt xs a b = !bt xs b a := fun a b ha hb h => by
      have := (hp.2.2.2 a ha).2 b h
      rw [bit_nat hp ha, bit_nat hp hb] at this
      show (winsN xs a).testBit b = !(winsN xs b).testBit a
      revert this
      cases (winsN xs a).testBit b <;> cases (winsN xs b).testBit a <;> simp
    rcases Nat.lt_or_gt_of_ne hab with h | h
    · rw [key b a hb ha h]; simp
    · exact key a b ha hb h
theorem bitI_bt {xs : List Int} {a b S : Nat} (h : xs.getD a 0 = (S : Int)) : bitI (xs.getD a 0) b = bt xs a b := by
  unfold bt winsN
  rw [h]
  show bitI (S : Int) b = S.testBit b
  unfold bitI
  rw [Nat.testBit_eq_decide_div_mod_eq, decide_eq_decide]
  have : (S : Int) / 2 ^ b % 2 = ((S / 2 ^ b % 2 : Nat) : Int) := by simp
  rw [this]; omega
theorem tour_of_bits {s : Int} {xs : List Int} (h1 : 1 ≤ s ∧ s ≤ 8) (h2 : (xs.length : Int) = s) (hb : ∀ i, i < xs.length → ∃ S : Nat, xs.getD i 0 = (S : Int) ∧ S < 2 ^ xs.length) (hd : ∀ a, a < xs.length → bt xs a a = false) (hx : ∀ a b, a < xs.length → b < xs.length → a ≠ b → bt xs a b = !bt xs b a) : tourP s xs := by
  refine ⟨h1, h2, fun x hx => ?_, fun a ha => ⟨?_, fun b hb' => ?_⟩⟩
  · obtain ⟨i, hi, rfl⟩ := List.getElem_of_mem hx
    obtain ⟨S, e, hS⟩ := hb i hi
    rw [show xs.getD i 0 = xs[i] by simp [hi]] at e
    rw [e, show s.toNat = xs.length by omega]
    have : ((2 : Int) ^ xs.length) = ((2 ^ xs.length : Nat) : Int) := by simp
    rw [this]; omega
  · obtain ⟨S, e, -⟩ := hb a ha
    rw [bitI_bt e]; exact hd a ha
  · obtain ⟨S, e, -⟩ := hb a ha
    obtain ⟨T, e', -⟩ := hb b (by omega)
    rw [bitI_bt e, bitI_bt e', hx a b ha (by omega) (by omega)]
    cases bt xs b a <;> simp
theorem rn_tour {s : Int} {xs ns : List Int} (hp : tourP s xs) (hP : PermP xs.length ns) : tourP s (rnL xs ns) := by
  have hl := rn_len rfl hP
  have hb := tour_bits hp
  refine tour_of_bits hp.1 (by rw [hl]; exact hp.2.1) (fun i hi => ?_) (fun a ha => ?_) (fun a b ha hb' hab => ?_)
  · rw [hl] at hi ⊢; exact rn_small rfl hP hi
  · rw [hl] at ha
    obtain ⟨p, hp', rfl⟩ := nm_surj hP ha
    rw [rn_bit rfl hP hp' hp']; exact hb.2.1 p hp'
  · rw [hl] at ha hb'
    obtain ⟨p, hp', rfl⟩ := nm_surj hP ha
    obtain ⟨q, hq', rfl⟩ := nm_surj hP hb'
    rw [rn_bit rfl hP hp' hq', rn_bit rfl hP hq' hp']
    exact hb.2.2 p q hp' hq' (fun e => hab (by rw [e]))
def idL (n : Nat) : List Int := (List.range n).map fun (a : Nat) => (a : Int)
theorem id_perm (n : Nat) : PermP n (idL n) := perm_list (fun a => a) (fun _ h => h) (fun _ _ _ _ h => h)
theorem rn_id {s : Int} {xs : List Int} (hp : tourP s xs) : rnL xs (idL xs.length) = xs := by
  refine (rn_of rfl (id_perm _) rfl (tour_bits hp).1 fun p q hp' hq => ?_).symm
  have e := fun {a : Nat} (h : a < xs.length) => nm_list (n := xs.length) (fun a => a) h
  unfold idL
  rw [e hp', e hq]
/-- back -/
theorem rn_back {s : Int} {xs p : List Int} (hp : tourP s xs) (hP : PermP xs.length p) : ∃ r, PermP xs.length r ∧ rnL (rnL xs p) r = xs := by
  have hl := rn_len rfl hP
  have hQ : PermP xs.length ((List.range xs.length).map fun i => ((invF xs.length p i : Nat) : Int)) := perm_list _ (fun a ha => (inv_spec hP ha).1) (fun a b ha hb e => by
    rw [← (inv_spec hP ha).2, ← (inv_spec hP hb).2, e])
  refine ⟨_, hQ, ?_⟩
  refine (rn_of hl hQ rfl (tour_bits hp).1 fun a b ha hb => ?_).symm
  rw [nm_list _ ha, nm_list _ hb]
  have h1 := inv_spec hP ha
  have h2 := inv_spec hP hb
  have := rn_bit rfl hP h1.1 h2.1
  rw [h1.2, h2.2] at this
  exact this.symm
end Go.Proofs.Ytcmpioalnpmpmaa

namespace Go.Proofs.Ytcmpioalnpmpmaa
open Go.RowKit Go.Sort

/-- the sum over the first j whom a beats -/
def pwT (xs ys : List Int) (a j : Nat) : Int := (((memN (winsN xs a) 8).take j).map fun b => ys.getD b 0).sum
def pwAt (xs ys : List Int) (a : Nat) : Int := pwT xs ys a (memN (winsN xs a) 8).length
def pwStep (xs ys : List Int) : List Int := (List.range xs.length).map (pwAt xs ys)
def pwL (xs : List Int) : Nat → List Int
  | 0 => List.replicate xs.length 1
  | k + 1 => pwStep xs (pwL xs k)
def PB (B : Int) (ys : List Int) : Prop := ∀ b : Nat, 0 ≤ ys.getD b 0 ∧ ys.getD b 0 ≤ B
theorem pwT_zero (xs ys : List Int) (a : Nat) : pwT xs ys a 0 = 0 := by simp [pwT]
theorem pwT_succ {xs ys : List Int} {a j : Nat} (h : j < (memN (winsN xs a) 8).length) : pwT xs ys a (j + 1) = pwT xs ys a j + ys.getD ((memN (winsN xs a) 8).getD j 0) 0 := by
  unfold pwT
  rw [take_snocN h, List.map_append, List.sum_append, getD_nat h]
  simp
theorem pwT_bd {xs ys : List Int} {B : Int} (hB : PB B ys) (a j : Nat) (h : j ≤ (memN (winsN xs a) 8).length) : 0 ≤ pwT xs ys a j ∧ pwT xs ys a j ≤ B * j := by
  induction j with
  | zero => simp [pwT_zero]
  | succ j ih =>
    have ih := ih (by omega)
    have hb := hB ((memN (winsN xs a) 8).getD j 0)
    rw [pwT_succ (by omega)]
    have : B * ((j + 1 : Nat) : Int) = B * j + B := by rw [Int.natCast_add, Int.mul_add]; simp
    omega
theorem pwT_bd' {xs ys : List Int} {B : Int} (hB : PB B ys) (h0 : 0 ≤ B) (h1 : B ≤ 68719476736) (a j : Nat) (h : j ≤ (memN (winsN xs a) 8).length) : 0 ≤ pwT xs ys a j ∧ pwT xs ys a j ≤ 549755813888 := by
  have h2 := pwT_bd (xs := xs) hB a j h
  have hl := memN_len (winsN xs a) 8
  have : B * (j : Int) ≤ B * 8 := Int.mul_le_mul_of_nonneg_left (by omega) h0
  omega
theorem memL_cells' {w : World} {base S k q d : Nat} {A : Option Addr} (h : Own w base (.slice A q d) (memL S k)) (hq : (memN S k).length = q) (h0 : 0 < q) :
    ∃ g off, A = some ⟨g, off, none⟩ ∧ g < w.heap.size ∧ ∀ j, j < q → w.cell? ⟨g, off + j, none⟩ = some (.int .i64 ((memN S k).getD j 0 : Nat)) := by
  obtain ⟨A', c, e, -, -, hx⟩ := memL_cells h
  injection e with e1 _ _
  subst e1
  rw [hq] at hx
  obtain ⟨g, off, e, hg, hz⟩ := hx h0
  exact ⟨g, off, e, hg, hz⟩
theorem pwAt_bd {xs ys : List Int} {B : Int} (hB : PB B ys) (h0 : 0 ≤ B) (a : Nat) : 0 ≤ pwAt xs ys a ∧ pwAt xs ys a ≤ B * 8 := by
  have h := pwT_bd (xs := xs) hB a _ (Nat.le_refl _)
  have hl := memN_len (winsN xs a) 8
  have : B * ((memN (winsN xs a) 8).length : Int) ≤ B * 8 := Int.mul_le_mul_of_nonneg_left (by omega) h0
  unfold pwAt
  omega
theorem pwStep_len (xs ys : List Int) : (pwStep xs ys).length = xs.length := by simp [pwStep]
theorem pwL_len (xs : List Int) (k : Nat) : (pwL xs k).length = xs.length := by cases k <;> simp [pwL, pwStep_len]
theorem pwStep_at {xs ys : List Int} {a : Nat} (h : a < xs.length) : (pwStep xs ys).getD a 0 = pwAt xs ys a := by simp [pwStep, h]
theorem pwL_bd (xs : List Int) (k : Nat) : PB (8 ^ k : Int) (pwL xs k) := by
  induction k with
  | zero =>
    intro b
    by_cases h : b < xs.length
    · simp [pwL, h]
    · simp [pwL, Nat.le_of_not_lt h]
  | succ k ih =>
    intro b
    have h0 : (0 : Int) ≤ 8 ^ k := Int.pow_nonneg (by decide)
    by_cases h : b < xs.length
    · rw [pwL, pwStep_at h, Int.pow_succ]
      exact pwAt_bd ih h0 b
    · have : (pwL xs (k + 1)).getD b 0 = 0 := by
        rw [List.getD_eq_getElem?_getD, List.getElem?_eq_none (by rw [pwL_len]; omega)]; rfl
      rw [this, Int.pow_succ]
      omega
theorem pw8 {k : Nat} (h : k ≤ 12) : (8 : Int) ^ k ≤ 68719476736 := by
  have : (8 : Nat) ^ k ≤ 8 ^ 12 := Nat.pow_le_pow_right (by decide) h
  have e : ((8 ^ k : Nat) : Int) = (8 : Int) ^ k := by simp
  rw [← e]
  have e2 : (8 : Nat) ^ 12 = 68719476736 := by decide
  omega
noncomputable def pwR (s : Int) (xs : List Int) (k : Int) : List Int := if (tourB s xs && inB k 0 12) = true then pwL xs k.toNat else []
theorem pwR_len (s : Int) (xs : List Int) (k : Int) : (pwR s xs k).length ≤ 8 := by
  unfold pwR
  split
  · rename_i h
    rw [Bool.and_eq_true] at h
    have := (tourB_true.1 h.1).1
    have := (tourB_true.1 h.1).2.1
    rw [pwL_len]; omega
  · simp
theorem getD_rep (n i : Nat) : (List.replicate n (0 : Int)).getD i 0 = 0 := by
  by_cases h : i < n
  · simp [h]
  · simp [Nat.le_of_not_lt h]
/-- the row that grows: done below a, the j-th partial sum at a, zeros above -/
def pwRow (xs ys N : List Int) (n a j : Nat) : Prop := ∀ i, i < n → N.getD i 0 = if i < a then pwAt xs ys i else if i = a then pwT xs ys a j else 0
theorem pwRow_start {xs ys : List Int} {n : Nat} : pwRow xs ys (List.replicate n 0) n 0 0 := fun i _ => by
  rw [getD_rep, pwT_zero]; simp
theorem pwRow_next {xs ys N : List Int} {n a : Nat} (h : pwRow xs ys N n a (memN (winsN xs a) 8).length) : pwRow xs ys N n (a + 1) 0 := fun i hi => by
  rw [h i hi, pwT_zero]
  by_cases h1 : i < a
  · rw [if_pos h1, if_pos (by omega)]
  · rw [if_neg h1]
    by_cases h2 : i = a
    · subst h2; rw [if_pos rfl, if_pos (by omega)]; rfl
    · rw [if_neg h2, if_neg (by omega)]; simp
theorem pwRow_step {xs ys N : List Int} {n a j : Nat} {v : Int} (hl : N.length = n) (h : pwRow xs ys N n a j) (ha : a < n) (hv : pwT xs ys a (j + 1) = v) : pwRow xs ys (N.set a v) n a (j + 1) := fun i hi => by
  by_cases h2 : i = a
  · subst h2
    rw [getD_set_same _ (by omega), if_neg (by omega), if_pos rfl, hv]
  · rw [getD_set_other _ (Ne.symm h2), h i hi, if_neg h2, if_neg h2]
theorem pwRow_at {xs ys N : List Int} {n a j : Nat} (h : pwRow xs ys N n a j) (ha : a < n) : N.getD a 0 = pwT xs ys a j := by
  rw [h a ha, if_neg (by omega), if_pos rfl]
theorem pwRow_end {xs ys N : List Int} {n : Nat} (hn : xs.length = n) (hl : N.length = n) (h : pwRow xs ys N n n 0) : N = pwStep xs ys :=
  list_ext0 hl (by rw [pwStep_len, hn]) fun i hi => by
    rw [h i hi, if_pos hi, pwStep_at (by omega)]
set_option maxHeartbeats 4000000 in
set_option maxRecDepth 100000 in
theorem implPower (s : Int) (sl : Value) (xs : List Int) (k : Int) (w : World) (h : Rd w sl xs) :
    Calls Try.prog 11 #[.agg #[.int .i64 s, sl], .int .i64 k] w fun e w' => ∃ v', e = .returned v' ∧ Own w' w.heap.size v' (pwR s xs k) ∧ Below w.heap.size w w' := by
  obtain ⟨i0, hi, hz0, hz1, hz2⟩ := info_parts i64_info
  have HR := Lib.hid h
  obtain ⟨A, c, rfl, -, -, -⟩ := h
  rcases q0 : tourB s xs with _ | _
  case false =>
    go_enter Try.func11, Try.ntmps11
    go_wp2_with fail
    have b0 := below_alloc1 w (.cells #[.int .i64 s, .slice A xs.length c] 25)
    have x0 := TBox.new w s (.slice A xs.length c) 25
    generalize w.alloc (.cells #[.int .i64 s, .slice A xs.length c] 25) = w0 at *
    have HX0 := Lib.hid x0
    have HB0 := Lib.hid b0
    clear x0 b0
    have y0_0 := HX0.out.1
    have y1_0 := HX0.out.2
    go_wp2_with fail
    refine (implTourOk s _ xs _ (HR.out.below HB0.out)).mono ?_
    rintro e w1 ⟨rfl, hb⟩
    have HX1 := Lib.hid (HX0.out.below hb)
    have HB1 := Lib.hid (Below.then HB0.out hb)
    clear hb HX0 HB0 y0_0 y1_0
    have y0_1 := HX1.out.1
    have y1_1 := HX1.out.2
    rw [q0]
    go_wp2
    go_ret
    exact ⟨_, rfl, by simp only [pwR, *]; exact Own.nil_ _ _, HB1.out⟩
  have hp := tourB_true.1 q0
  have hs := hp.1
  have hl := hp.2.1
  rcases q1 : inB k 0 12 with _ | _
  case false =>
    go_enter Try.func11, Try.ntmps11
    go_wp2_with fail
    have b0 := below_alloc1 w (.cells #[.int .i64 s, .slice A xs.length c] 25)
    have x0 := TBox.new w s (.slice A xs.length c) 25
    generalize w.alloc (.cells #[.int .i64 s, .slice A xs.length c] 25) = w0 at *
    have HX0 := Lib.hid x0
    have HB0 := Lib.hid b0
    clear x0 b0
    have y0_0 := HX0.out.1
    have y1_0 := HX0.out.2
    go_wp2_with fail
    refine (implTourOk s _ xs _ (HR.out.below HB0.out)).mono ?_
    rintro e w1 ⟨rfl, hb⟩
    have HX1 := Lib.hid (HX0.out.below hb)
    have HB1 := Lib.hid (Below.then HB0.out hb)
    clear hb HX0 HB0 y0_0 y1_0
    have y0_1 := HX1.out.1
    have y1_1 := HX1.out.2
    rw [q0]
    go_wp2_with fail
    refine (within_any _ _ _ _).mono ?_
    rintro e wz ⟨rfl, rfl⟩
    rw [q1]
    go_wp2
    go_ret
    exact ⟨_, rfl, by simp only [pwR, *]; exact Own.nil_ _ _, HB1.out⟩
  have hk := inB_true.1 q1
  go_enter Try.func11, Try.ntmps11
  go_wp2_with fail
  have b0 := below_alloc1 w (.cells #[.int .i64 s, .slice A xs.length c] 25)
  have x0 := TBox.new w s (.slice A xs.length c) 25
  generalize w.alloc (.cells #[.int .i64 s, .slice A xs.length c] 25) = w0 at *
  have HX0 := Lib.hid x0
  have HB0 := Lib.hid b0
  clear x0 b0
  have y0_0 := HX0.out.1
  have y1_0 := HX0.out.2
  go_wp2_with fail
  refine (implTourOk s _ xs _ (HR.out.below HB0.out)).mono ?_
  rintro e w1 ⟨rfl, hb⟩
  have HX1 := Lib.hid (HX0.out.below hb)
  have HB1 := Lib.hid (Below.then HB0.out hb)
  clear hb HX0 HB0 y0_0 y1_0
  have y0_1 := HX1.out.1
  have y1_1 := HX1.out.2
  rw [q0]
  go_wp2_with fail
  refine (within_any _ _ _ _).mono ?_
  rintro e wz ⟨rfl, rfl⟩
  rw [q1]
  have hF : Hid (pwR s xs k = pwL xs k.toNat) := by unfold Hid; simp [pwR, q0, q1]
  obtain ⟨m, rfl⟩ := Int.eq_ofNat_of_zero_le hk.1
  have hm12 : m ≤ 12 := by omega
  rw [show ((m : Int)).toNat = m from rfl] at hF
  obtain ⟨g, off, c', e, hc', hg, hx⟩ := tour_cells HR.out hp
  injection e with e1 _ e2
  subst e1 e2
  unfold maxLen at hc'
  have HXS := Lib.hid hx
  have HW := Lib.hid (fun j hj => (tour_wins hp (a := j) hj).2.2)
  have HM := Lib.hid (fun a ha => wins_mem hp (a := a) ha)
  clear hx hp q0 q1 hk
  generalize hn : xs.length = n at *
  have HN := Lib.hid hn
  clear hn
  obtain rfl : s = n := by omega
  have y0' := (HX1.out.below (below_alloc1 w1 (.cells #[.int .i64 1] 3))).1
  go_wp2_with fail
  refine (repeat1_any n w1.heap.size (w1.alloc (.cells #[.int .i64 1] 3)) (by omega) (by omega) (by simp [go_sem])).mono ?_
  rintro e w3 ⟨v3, rfl, ho, hb⟩
  have hb' := Below.then (below_alloc1 w1 _) hb
  have HB3 := Lib.hid (Below.then HB1.out hb')
  have HX3 := Lib.hid (HX1.out.below hb')
  have HO3 := Lib.hid (ho.mono (show w.heap.size ≤ _ from Nat.le_trans HB1.out.size (Nat.le_of_lt (by simp))))
  clear ho hb hb' y0' y0_1 y1_1 HX1 HB1
  go_wp2
  go_loopw [5, 24] (fun now i wr => ∃ (j : Nat) (V : Value), j ≤ m ∧ i = .int .i64 j ∧ now = V ∧ Own wr w.heap.size V (pwL xs j) ∧ Below w3.heap.size w3 wr) (fun _ i _ => m - (intOf i).toNat)
  case atStart => exact ⟨0, _, by omega, rfl, rfl, by rw [pwL, HN.out]; exact HO3.out, Below.refl _ _⟩
  case round =>
    obtain ⟨wo, rfl⟩ : ∃ x, x = wr := ⟨_, rfl⟩
    obtain ⟨j, V, hj, rfl, rfl, hown, hb⟩ := hrel
    have HO := Lib.hid hown
    have HB := Lib.hid hb
    have HXr := Lib.hid (HX3.out.below hb)
    have y0 := HXr.out.1
    have y1 := HXr.out.2
    clear hown hb
    by_cases hlt : j < m
    · have HPB := Lib.hid (pwL_bd xs j)
      have h8 := pw8 (show j ≤ 12 by omega)
      have h80 : (0 : Int) ≤ 8 ^ j := Int.pow_nonneg (by decide)
      have HST : Hid (pwL xs (j + 1) = pwStep xs (pwL xs j)) := rfl
      have hYl := pwL_len xs j
      rw [HN.out] at hYl
      generalize pwL xs j = Y at *
      generalize (8 : Int) ^ j = B at *
      obtain ⟨gv, cv, rfl, hgv, hcv, hnv, hyc, -⟩ := HO.out.at_ hYl (by omega)
      have hgv2 := (HO.out.lt gv rfl).2
      unfold maxLen at hcv
      have HYC := Lib.hid hyc
      have hwr := HB.out.size
      have hw3 := HB3.out.size
      clear hyc
      go_wp2_with (at_make; refine wpList_make_full _ rfl _ _ 23 rfl wo.heap.size 3 i0 (.int .i64 0) 1 Try.underlying23 hi hz0 hz1 _ _ _ _ n rfl rfl rfl rfl (by rw [hz2]; omega) (by unfold maxLen; omega) (Nat.le_refl _) ?_; intro w4 hown hg1; have hb1 : Below wo.heap.size wo w4 := (Below.refl _ _).grown hg1 (Nat.le_refl _) (by simp); have y0' := (HXr.out.below hb1).1; have y1' := (HXr.out.below hb1).2; have HB4 := Lib.hid hb1; have HOWN := Lib.hid hown; clear hown hg1 hb1)
      generalize hgl : wo.heap.size = gl at *
      have HGL := Lib.hid hgl
      clear hgl y0' y1' y0 y1
      go_loopw [32] (fun i w5 => ∃ (a : Nat) (N : List Int), a ≤ n ∧ i = .int .i64 a ∧ N.length = n ∧ Own w5 gl (.slice (some ⟨gl, 0, none⟩) n n) N ∧ Hid (pwRow xs Y N n a 0) ∧ Below gl wo w5) (fun i _ => n - (intOf i).toNat)
      case atStart =>
        refine ⟨0, List.replicate n 0, by omega, rfl, by simp, ?_, pwRow_start, HB4.out⟩
        have ho := HOWN.out
        rw [ints_made'] at ho
        unfold Own
        rw [List.length_replicate]
        exact ho
      case round =>
        obtain ⟨wa, rfl⟩ : ∃ x, x = wr := ⟨_, rfl⟩
        obtain ⟨a, N, ha, rfl, hNl, hown, HP, hb⟩ := hrel
        have HOa := Lib.hid hown
        have HBa := Lib.hid hb
        clear hown hb
        by_cases hlta : a < n
        · have hB : Below w.heap.size w wa := Below.then (Below.then HB3.out HB.out) (by rw [HGL.out]; exact HBa.out)
          have hxa := (hB.cell (p := ⟨g, off + a, none⟩) hg).trans (HXS.out a hlta)
          have h256 := HW.out a hlta
          have hmem := HM.out a hlta
          clear hB
          have HPT := Lib.hid (fun (t : Nat) (ht : t ≤ (memN (winsN xs a) 8).length) => pwT_bd' HPB.out h80 h8 a t ht)
          have HPS := Lib.hid (fun (t : Nat) (ht : t < (memN (winsN xs a) 8).length) => pwT_succ (ys := Y) ht)
          have hm8 := memN_len (winsN xs a) 8
          go_wp2_with fail
          refine (membersOf_any (winsN xs a) 8 _ h256 (by omega)).mono ?_
          rintro e w6 ⟨v6, rfl, ho6, hb6⟩
          obtain ⟨A6, d6, rfl, hd1, hd2, hl6⟩ := memL_cells ho6
          unfold maxLen at hd1
          have HL6 := Lib.hid hl6
          have hg6 := HOa.out.lt gl rfl
          have HO6 := Lib.hid (HOa.out.below hb6)
          have hsz6 := hb6.size
          have HB6 := Lib.hid (show Below gl wo w6 from HBa.out.trans (hb6.mono (by omega)))
          have HMEM := Lib.hid hmem
          have HO66 := Lib.hid ho6
          clear ho6 hb6 hl6 hxa HOa HBa hmem
          generalize hLL : memN (winsN xs a) 8 = L at *
          generalize hLn : L.length = q at *
          have HLN := Lib.hid hLn
          have HLL2 := Lib.hid hLL
          clear hLn hLL
          go_wp2
          go_loopw [40] (fun i w7 => ∃ (t : Nat) (M : List Int), t ≤ q ∧ i = .int .i64 t ∧ M.length = n ∧ Own w7 gl (.slice (some ⟨gl, 0, none⟩) n n) M ∧ Hid (pwRow xs Y M n a t) ∧ Own w7 wa.heap.size (.slice A6 q d6) (memL (winsN xs a) 8) ∧ Below gl wo w7) (fun i _ => q - (intOf i).toNat)
          case atStart => exact ⟨0, N, by omega, rfl, hNl, HO6.out, HP, HO66.out, HB6.out⟩
          case round =>
            obtain ⟨t, M, ht, rfl, hMl, hown, HP7, ho7, hb⟩ := hrel
            by_cases hltt : t < q
            · obtain ⟨g7, off7, rfl, hg7, hz⟩ := memL_cells' ho7 (by rw [HLL2.out]; exact HLN.out) (by omega)
              have hzt := hz t hltt
              rw [HLL2.out] at hzt
              have hbn := HMEM.out (L.getD t 0) (by rw [getD_nat (by rw [HLN.out]; exact hltt)]; exact List.getElem_mem _)
              have hyb := (hb.cell (p := ⟨gv, L.getD t 0, none⟩) hgv2).trans (HYC.out _ hbn)
              obtain ⟨hx7, hf7⟩ := hown.at1 hMl (by omega)
              have za := hx7 a hlta
              rw [pwRow_at HP7.out hlta] at za
              have hP := HPT.out t (by omega)
              have hPs := Lib.hid (HPS.out t hltt)
              have hbd := HPB.out (L.getD t 0)
              have HO7 := Lib.hid hown
              have HM7 := Lib.hid ho7
              have HB7 := Lib.hid hb
              clear hz hx7 hf7 hown ho7 hb
              generalize L.getD t 0 = b at *
              generalize pwT xs Y a t = x at *
              generalize Y.getD b 0 = y at *
              go_wp2_with fail
              have c1 := cell_regrown za
              have c2 := cell_regrown hyb
              clear hzt za hyb
              refine wp_region_below_tail 10 (by kernel_rfl) (by kernel_rfl) ?_
              simp only [List.take_succ_cons, List.take_zero, List.drop_succ_cons, List.drop_zero]
              repeat (go_big_quiet_step (first | (with_reducible fail)))
              refine wpQuiet_nil ?_
              intro wq hbq0
              have hbq := Lib.hid hbq0
              clear hbq0
              clear c1 c2
              have O2 := HO7.out.below hbq.out
              obtain ⟨hx2, hf2⟩ := O2.at1 hMl (by omega)
              have za := hx2 a hlta
              rw [pwRow_at HP7.out hlta] at za
              have fa := hf2 a
              have HO3 := Lib.hid (O2.set_ hMl a (x + y)).1
              have HM3 := Lib.hid ((HM7.out.below hbq.out).kept (setCell_grown _ ⟨gl, a, none⟩ (.int .i64 (x + y))) (own_ne (fun k hk => (HM7.out.lt k hk).1) hg6.2))
              have hsz7 := HB7.out.size
              have HB8 := Lib.hid ((HB7.out.trans (hbq.out.mono (by have := HGL.out; omega))).setCell (p := ⟨gl, a, none⟩) (Nat.le_refl _) (.int .i64 (x + y)))
              clear hx2 hf2 O2 HO7 HM7 HB7
              go_wp2
              go_roundw
              case rel => exact ⟨t + 1, M.set a (x + y), by omega, by go_num, by rw [List.length_set]; exact hMl, HO3.out, pwRow_step hMl HP7.out hlta hPs.out, HM3.out, HB8.out⟩
              case measure => simp [intOf]; omega
            · obtain rfl : t = q := by omega
              have HP8 : Hid (pwRow xs Y M n (a + 1) 0) := pwRow_next (by rw [HLL2.out, HLN.out]; exact HP7.out)
              have HOM := Lib.hid hown
              have HBM := Lib.hid hb
              clear hown hb
              go_wp2
              go_roundw
              case rel => exact ⟨a + 1, M, by omega, by go_num, hMl, HOM.out, HP8.out, HBM.out⟩
              case measure => simp [intOf]; omega
        · obtain rfl : a = n := by omega
          have hE := pwRow_end HN.out hNl HP.out
          have hB3 : Below w3.heap.size w3 wa := Below.then HB.out (by rw [HGL.out]; exact HBa.out)
          have HB3' := Lib.hid hB3
          clear hB3
          rw [hE] at HOa
          go_wp2
          go_roundw
          case rel => exact ⟨j + 1, _, by omega, by go_num, rfl, by rw [HST.out]; have h1 := HOa.out.mono (show w.heap.size ≤ gl by omega); exact h1, HB3'.out⟩
          case measure => simp [intOf]; omega
    · obtain rfl : j = m := by omega
      go_wp2
      go_ret
      exact ⟨_, rfl, by rw [hF.out]; exact HO.out, Below.then HB3.out HB.out⟩
end Go.Proofs.Ytcmpioalnpmpmaa

