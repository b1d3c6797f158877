/- Texts put together: MkT, FrameB, HTk. -/
import Derived.Test.YtbkiedhaacapbaaDoorMTours16
import Derived.Test.YtbkiedhaacapbaaDoorMTours01
import Derived.Test.YtbkiedhaacapbaaDoorMTours15
namespace Go.Proofs.YtbkiedhaacapbaaDoor
open Go.RowKit Go.Sort
set_option maxRecDepth 100000
set_option maxHeartbeats 2000000 in
theorem makeTour_any (w : World) (v : Value) (k m : Int) (n most : Nat) (hk : k = n) (hm : m = most) (hn : n ≤ 1000) (hm1 : 2 ≤ most) (hm8 : most ≤ 7) (hv : BytesV w w.heap.size v) :
    Calls Tryd.prog 16 #[v, .int .i64 k, .int .i64 m] w fun e w' => ∃ (s : Nat) (sl : Value) (xs : List Int), e = .returned (.agg #[.int .i64 s, sl]) ∧ s ≤ most ∧ tourP s xs ∧ Own w' w.heap.size sl xs ∧ Below w.heap.size w w' := by
  subst hm
  have HV := Lib.hid hv
  have HK := Lib.hid hk
  have HT0 := Lib.hid (BoxF.new w 0 (.slice none 0 0) 25)
  have HB0 := Lib.hid (below_alloc1 w (.cells #[.int .i64 0, .slice none 0 0] 25))
  have e1 : (most : Int) < 8 := by omega
  have e2 : (1 : Int) < (most : Int) := by omega
  clear hv hk
  go_enter Tryd.func16, Tryd.ntmps16
  go_wp2_with fail
  generalize w.alloc (.cells #[.int .i64 0, .slice none 0 0] 25) = w0 at *
  have hg0 := HT0.out.gt
  go_wp2_with fail
  refine (l32New_lit w0 v k n HK.out hn ((HV.out.keep fun p hp => HB0.out.cell hp).mono HB0.out.size)).mono ?_
  rintro e w1 ⟨g, rfl, hc1, hb1⟩
  have HC1 := Lib.hid hc1
  have HT1 := Lib.hid (HT0.out.below hb1)
  have HB1 := Lib.hid (Below.then HB0.out hb1)
  have hgw : w.heap.size < g := Nat.lt_of_lt_of_le hg0 hc1.le
  have hw1 : w.heap.size ≤ w1.heap.size := HB1.out.size
  clear hc1 hb1
  go_wp2_with fail
  refine (l05Draw_any w0.heap.size w1 g v most (by omega) (by omega) HC1.out).mono ?_
  rintro e w2 ⟨C, sl, rs, rfl, hC, hr, ho, hg⟩
  obtain ⟨Y, cy, rfl, -, -, -⟩ := ho.form
  have HR := Lib.hid hr
  have T2 := HT1.out.kept hg (by simp; omega)
  have hlt : w.heap.size < w1.heap.size := HT1.out.gt
  have t0 := T2.1.1
  have t1 := T2.1.2
  have f0 := T2.2 0
  have f1 := T2.2 1
  have HO := Lib.hid (((ho.kept (setCell_grown _ ⟨w.heap.size, 0, none⟩ (.int .i64 C)) (own_ne (fun k hk => (ho.lt k hk).1) (by simp; omega))).kept (setCell_grown _ ⟨w.heap.size, 1, none⟩ (.slice Y rs.length cy)) (own_ne (fun k hk => (ho.lt k hk).1) (by simp; omega))))
  have HB2 := Lib.hid (HB1.out.grown hg HB1.out.size (fun k hk => by injection hk with hk; omega))
  have HB := Lib.hid ((HB2.out.setCell (p := ⟨w.heap.size, 0, none⟩) (Nat.le_refl _) (.int .i64 C)).setCell (p := ⟨w.heap.size, 1, none⟩) (Nat.le_refl _) (.slice Y rs.length cy))
  have R0 : Hid (((w2.setCell ⟨w.heap.size, 0, none⟩ (.int .i64 C)).setCell ⟨w.heap.size, 1, none⟩ (.slice Y rs.length cy)).cell? ⟨w.heap.size, 0, none⟩ = some (.int .i64 C)) := (World.cell?_setCell_other _ _ _ _ (by simp)).trans (World.cell?_setCell_same _ _ _ t0)
  have R1 : Hid (((w2.setCell ⟨w.heap.size, 0, none⟩ (.int .i64 C)).setCell ⟨w.heap.size, 1, none⟩ (.slice Y rs.length cy)).cell? ⟨w.heap.size, 1, none⟩ = some (.slice Y rs.length cy)) := World.cell?_setCell_same _ _ _ ((World.cell?_setCell_other _ _ _ _ (by simp)).trans t1)
  clear ho hg T2 hr
  go_wp2
  have r0 := R0.out
  have r1 := R1.out
  refine bodyPost_ret (v := .agg #[.int .i64 C, .slice Y rs.length cy]) (by simp only [results, Tryd.results16]; simp [go_sem, r0, r1]) rfl ⟨C, _, rs, rfl, hC, HR.out, HO.out.mono (by omega), HB.out⟩
set_option maxHeartbeats 2000000 in
theorem makeOrder_any (w : World) (v : Value) (k : Int) (n s : Nat) (hk : k = n) (hn : n ≤ 1000) (hs1 : 1 ≤ s) (hs8 : s ≤ 7) (hv : BytesV w w.heap.size v) :
    Calls Tryd.prog 17 #[v, .int .i64 k, .int .i64 s] w fun e w' => ∃ (sl : Value) (ns : List Int), e = .returned sl ∧ PermP s ns ∧ Own w' w.heap.size sl ns ∧ Below w.heap.size w w' := by
  have HV := Lib.hid hv
  have HK := Lib.hid hk
  clear hv hk
  have e1 : (s : Int) < 8 := by omega
  by_cases h1 : s = 1
  · subst h1
    go_enter Tryd.func17, Tryd.ntmps17
    go_wp2_with fail
    refine (l32New_lit w v k n HK.out hn HV.out).mono ?_
    rintro e w1 ⟨g, rfl, hc1, hb1⟩
    have HC1 := Lib.hid hc1
    have HB1 := Lib.hid hb1
    clear hc1 hb1
    go_wp2_with fail
    refine (l02Order_any w.heap.size w1 g v 1 (by omega) HC1.out).mono ?_
    rintro e w2 ⟨sl, ns, rfl, hP, ho, hc2, hg⟩
    have hgw := HC1.out.le
    have HB := Lib.hid (HB1.out.grown hg HB1.out.size (fun k hk => by injection hk with hk; omega))
    have HO := Lib.hid (ho.mono HB1.out.size)
    have HP := Lib.hid hP
    obtain ⟨Y, cy, rfl, -, -, -⟩ := ho.form
    clear ho hc2 hg hP
    go_wp2
    go_ret
    exact ⟨_, ns, rfl, HP.out, HO.out, HB.out⟩
  · have e2 : (1 : Int) < (s : Int) := by omega
    go_enter Tryd.func17, Tryd.ntmps17
    go_wp2_with fail
    refine (l32New_lit w v k n HK.out hn HV.out).mono ?_
    rintro e w1 ⟨g, rfl, hc1, hb1⟩
    have HC1 := Lib.hid hc1
    have HB1 := Lib.hid hb1
    clear hc1 hb1
    go_wp2_with fail
    refine (l02Order_any w.heap.size w1 g v s (by omega) HC1.out).mono ?_
    rintro e w2 ⟨sl, ns, rfl, hP, ho, hc2, hg⟩
    have hgw := HC1.out.le
    have HB := Lib.hid (HB1.out.grown hg HB1.out.size (fun k hk => by injection hk with hk; omega))
    have HO := Lib.hid (ho.mono HB1.out.size)
    have HP := Lib.hid hP
    obtain ⟨Y, cy, rfl, -, -, -⟩ := ho.form
    clear ho hc2 hg hP
    go_wp2
    go_ret
    exact ⟨_, ns, rfl, HP.out, HO.out, HB.out⟩
end Go.Proofs.YtbkiedhaacapbaaDoor

namespace Go.Proofs.YtbkiedhaacapbaaDoor
open Go.ChangeShapes Go.WideShapes Go.ChangeAt Go.RowKit Go.Joins
set_option maxRecDepth 100000
section
variable {H : Type} {enc : TypeId × Value → H} {W : World} {base b0 : Nat} {spare : Nat → Bool} {held : Bool} {v : Value} {d : DataW H} {p : List MemPlace} {r : Reach}
theorem bytes_of {fuel : Nat} {x : DataW H × List MemPlace} {v : Value} (hf : DataW.trod enc Tryd.prog W base spare held fuel 22 [v] = some x) : BytesV W W.heap.size v := by
  rcases open_ints Tryd.underlying22 Tryd.underlying5 (by kernel_rfl) hf with ⟨hcs, _⟩ | ⟨y, l, c, zs, hcs, _, hl, hm, hz, _, hcell, hwz⟩
  · simp at hcs
    subst hcs
    exact ⟨none, 0, 0, rfl, Nat.le_refl _, by unfold maxLen; omega, fun h => absurd h (by omega)⟩
  · simp at hcs
    subst hcs
    refine ⟨some y, l, c, rfl, hl, hm, fun h0 => ?_⟩
    have hzl : l ≤ zs.length := by rw [hz]; split <;> omega
    obtain ⟨b, off, spot⟩ := y
    have h00 := hcell 0 (by omega)
    have hspot : spot = none := by simpa [Addr.add] using World.cell?_spot h00
    subst hspot
    refine ⟨b, off, rfl, by have := World.block_lt_of_cell? W _ h00; simpa [Addr.add] using this, fun k hk => ?_⟩
    have hb := bounds_u8 (hwz (zs.getD k 0) (by rw [show zs.getD k 0 = zs[k] by simp [show k < zs.length by omega]]; exact List.getElem_mem _))
    obtain ⟨x, hx⟩ := Int.eq_ofNat_of_zero_le hb.1
    refine ⟨x, by omega, ?_⟩
    have := hcell k (by omega)
    rw [Addr.add_lit, hx] at this
    exact this
theorem open_bytesv (hv : Value.okWide Tryd.prog W r b0 22 v) (h : DataW.Trod enc Tryd.prog W base spare held 22 v d p) : BytesV W W.heap.size v := by
  obtain ⟨a0, len0, cap0, rfl⟩ := okWide_slice Tryd.underlying22 hv
  obtain ⟨fuel, hf⟩ := h
  exact bytes_of hf
end
end Go.Proofs.YtbkiedhaacapbaaDoor

namespace Go.Proofs.YtbkiedhaacapbaaDoor
open Go.RowKit Go.Sort
section
variable {P : Program} {md : Region.Mode} {S : World → Prop} {Q : Exit → Act → World → Prop}
theorem hTake {l0 rest : List Oper} {i : Nat} {oi : Oper} {v : Value} {fuel : Nat} {listed : Array Bool} {a : Act} {w : World} (hd : l0.drop i = oi :: rest)
    (hs : Region.noSelect l0.toArray = true) (hf : Region.free md l0.toArray listed i = true) (hr : (Region.ready md l0.toArray listed).contains i = true)
    (hQ : ∀ c a w, Q (.panic c) (a.put oi.dst v) w → Q (.panic c) a w) (hy : YieldsIf P l0.toArray S oi v a) (hS : S w)
    (h : wpAnyH P md l0.toArray Q S fuel (listed.setIfInBounds i true) (a.put oi.dst v) w) : wpAnyH P md l0.toArray Q S (fuel + 1) listed a w :=
  wpAnyH_take (drop_at hd) hs hf hr hQ hy hS h
theorem hSkip {l0 rest : List Oper} {i : Nat} {oi : Oper} {fuel : Nat} {listed : Array Bool} {a : Act} {w : World} (hd : l0.drop i = oi :: rest)
    (hs : Region.noSelect l0.toArray = true) (hf : Region.free md l0.toArray listed i = true) (hr : (Region.ready md l0.toArray listed).contains i = true)
    (hQ : ∀ c a w, Q (.panic c) (a.put oi.dst undef) w → Q (.panic c) a w) (hy : Region.wanted oi (yielded l0.toArray a.tmps) = false) (hS : S w)
    (h : wpAnyH P md l0.toArray Q S fuel (listed.setIfInBounds i true) (a.put oi.dst undef) w) : wpAnyH P md l0.toArray Q S (fuel + 1) listed a w :=
  wpAnyH_take (drop_at hd) hs hf hr hQ (.inr ⟨hy, rfl⟩) hS h
theorem hStep {l0 rest : List Oper} {i : Nat} {o : Oper} {fuel : Nat} {listed : Array Bool} {a : Act} {w : World} {rs : List Nat} (hd : l0.drop i = o :: rest)
    (h : ∀ K' : Act → World → Prop, Shut (∀ a w, S w → (S w → wpAnyH P md l0.toArray Q S fuel (listed.setIfInBounds i true) a w) → K' a w) → if Region.wanted o (yielded l0.toArray a.tmps) = true then Oper.wp P o a w K' Q else K' (a.put o.dst undef) w)
    (hs : AllReadyH P md l0.toArray Q S fuel listed a w rs) : AllReadyH P md l0.toArray Q S fuel listed a w (i :: rs) := AllReadyH.cons (drop_at hd) h hs
end
end Go.Proofs.YtbkiedhaacapbaaDoor

