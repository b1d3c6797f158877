/- Texts put together: MkT, FrameB, StD. -/
import Derived.Test.YtbkiedhaacapbaaGreatMTop30
import Derived.Test.YtbkiedhaacapbaaGreatMTop02
import Derived.Test.YtbkiedhaacapbaaGreatMTop29
import Derived.Test.YtbkiedhaacapbaaGreatMTop16
import Derived.Test.YtbkiedhaacapbaaGreatMTop11
namespace Go.Proofs.YtbkiedhaacapbaaGreat
open Go.RowKit Go.Sort
set_option maxRecDepth 100000
set_option maxHeartbeats 2000000 in
theorem makeTour_any (w : World) (v : Value) (k m : Int) (n most : Nat) (hk : k = n) (hm : m = most) (hn : n ≤ 1000) (hm1 : 2 ≤ most) (hm8 : most ≤ 7) (hv : BytesV w w.heap.size v) :
    Calls Tryz.prog 4 #[v, .int .i64 k, .int .i64 m] w fun e w' => ∃ (s : Nat) (sl : Value) (xs : List Int), e = .returned (.agg #[.int .i64 s, sl]) ∧ s ≤ most ∧ tourP s xs ∧ Own w' w.heap.size sl xs ∧ Below w.heap.size w w' := by
  subst hm
  have HV := Lib.hid hv
  have HK := Lib.hid hk
  have HT0 := Lib.hid (BoxF.new w 0 (.slice none 0 0) 25)
  have HB0 := Lib.hid (below_alloc1 w (.cells #[.int .i64 0, .slice none 0 0] 25))
  have e1 : (most : Int) < 8 := by omega
  have e2 : (1 : Int) < (most : Int) := by omega
  clear hv hk
  go_enter Tryz.func4, Tryz.ntmps4
  go_wp2_with fail
  generalize w.alloc (.cells #[.int .i64 0, .slice none 0 0] 25) = w0 at *
  have hg0 := HT0.out.gt
  go_wp2_with fail
  refine (l32New_lit w0 v k n HK.out hn ((HV.out.keep fun p hp => HB0.out.cell hp).mono HB0.out.size)).mono ?_
  rintro e w1 ⟨g, rfl, hc1, hb1⟩
  have HC1 := Lib.hid hc1
  have HT1 := Lib.hid (HT0.out.below hb1)
  have HB1 := Lib.hid (Below.then HB0.out hb1)
  have hgw : w.heap.size < g := Nat.lt_of_lt_of_le hg0 hc1.le
  have hw1 : w.heap.size ≤ w1.heap.size := HB1.out.size
  clear hc1 hb1
  go_wp2_with fail
  refine (l05Draw_any w0.heap.size w1 g v most (by omega) (by omega) HC1.out).mono ?_
  rintro e w2 ⟨C, sl, rs, rfl, hC, hr, ho, hg⟩
  obtain ⟨Y, cy, rfl, -, -, -⟩ := ho.form
  have HR := Lib.hid hr
  have T2 := HT1.out.kept hg (by simp; omega)
  have hlt : w.heap.size < w1.heap.size := HT1.out.gt
  have t0 := T2.1.1
  have t1 := T2.1.2
  have f0 := T2.2 0
  have f1 := T2.2 1
  have HO := Lib.hid (((ho.kept (setCell_grown _ ⟨w.heap.size, 0, none⟩ (.int .i64 C)) (own_ne (fun k hk => (ho.lt k hk).1) (by simp; omega))).kept (setCell_grown _ ⟨w.heap.size, 1, none⟩ (.slice Y rs.length cy)) (own_ne (fun k hk => (ho.lt k hk).1) (by simp; omega))))
  have HB2 := Lib.hid (HB1.out.grown hg HB1.out.size (fun k hk => by injection hk with hk; omega))
  have HB := Lib.hid ((HB2.out.setCell (p := ⟨w.heap.size, 0, none⟩) (Nat.le_refl _) (.int .i64 C)).setCell (p := ⟨w.heap.size, 1, none⟩) (Nat.le_refl _) (.slice Y rs.length cy))
  have R0 : Hid (((w2.setCell ⟨w.heap.size, 0, none⟩ (.int .i64 C)).setCell ⟨w.heap.size, 1, none⟩ (.slice Y rs.length cy)).cell? ⟨w.heap.size, 0, none⟩ = some (.int .i64 C)) := (World.cell?_setCell_other _ _ _ _ (by simp)).trans (World.cell?_setCell_same _ _ _ t0)
  have R1 : Hid (((w2.setCell ⟨w.heap.size, 0, none⟩ (.int .i64 C)).setCell ⟨w.heap.size, 1, none⟩ (.slice Y rs.length cy)).cell? ⟨w.heap.size, 1, none⟩ = some (.slice Y rs.length cy)) := World.cell?_setCell_same _ _ _ ((World.cell?_setCell_other _ _ _ _ (by simp)).trans t1)
  clear ho hg T2 hr
  go_wp2
  have r0 := R0.out
  have r1 := R1.out
  refine bodyPost_ret (v := .agg #[.int .i64 C, .slice Y rs.length cy]) (by simp only [results, Tryz.results4]; simp [go_sem, r0, r1]) rfl ⟨C, _, rs, rfl, hC, HR.out, HO.out.mono (by omega), HB.out⟩
end Go.Proofs.YtbkiedhaacapbaaGreat

namespace Go.Proofs.YtbkiedhaacapbaaGreat
open Go.ChangeShapes Go.WideShapes Go.ChangeAt Go.RowKit Go.Joins
set_option maxRecDepth 100000
section
variable {H : Type} {enc : TypeId × Value → H} {W : World} {base b0 : Nat} {spare : Nat → Bool} {held : Bool} {v : Value} {d : DataW H} {p : List MemPlace} {r : Reach}
theorem bytes_of {fuel : Nat} {x : DataW H × List MemPlace} {v : Value} (hf : DataW.trod enc Tryz.prog W base spare held fuel 22 [v] = some x) : BytesV W W.heap.size v := by
  rcases open_ints Tryz.underlying22 Tryz.underlying5 (by kernel_rfl) hf with ⟨hcs, _⟩ | ⟨y, l, c, zs, hcs, _, hl, hm, hz, _, hcell, hwz⟩
  · simp at hcs
    subst hcs
    exact ⟨none, 0, 0, rfl, Nat.le_refl _, by unfold maxLen; omega, fun h => absurd h (by omega)⟩
  · simp at hcs
    subst hcs
    refine ⟨some y, l, c, rfl, hl, hm, fun h0 => ?_⟩
    have hzl : l ≤ zs.length := by rw [hz]; split <;> omega
    obtain ⟨b, off, spot⟩ := y
    have h00 := hcell 0 (by omega)
    have hspot : spot = none := by simpa [Addr.add] using World.cell?_spot h00
    subst hspot
    refine ⟨b, off, rfl, by have := World.block_lt_of_cell? W _ h00; simpa [Addr.add] using this, fun k hk => ?_⟩
    have hb := bounds_u8 (hwz (zs.getD k 0) (by rw [show zs.getD k 0 = zs[k] by simp [show k < zs.length by omega]]; exact List.getElem_mem _))
    obtain ⟨x, hx⟩ := Int.eq_ofNat_of_zero_le hb.1
    refine ⟨x, by omega, ?_⟩
    have := hcell k (by omega)
    rw [Addr.add_lit, hx] at this
    exact this
theorem open_bytesv (hv : Value.okWide Tryz.prog W r b0 22 v) (h : DataW.Trod enc Tryz.prog W base spare held 22 v d p) : BytesV W W.heap.size v := by
  obtain ⟨a0, len0, cap0, rfl⟩ := okWide_slice Tryz.underlying22 hv
  obtain ⟨fuel, hf⟩ := h
  exact bytes_of hf
end
end Go.Proofs.YtbkiedhaacapbaaGreat

namespace Go.Proofs.YtbkiedhaacapbaaGreat
open Go.RowKit Go.Sort
set_option maxRecDepth 100000
section
variable {n : Nat} {xs : List Int} {sl : Value} {w : World}
end
theorem parts_pos {n : Nat} {xs : List Int} (hp : tourP n xs) : 1 ≤ (partsN xs (2 ^ n - 1)).length := by
  refine Nat.pos_of_ne_zero fun h => ?_
  have h1 := pt_start hp
  rw [← h] at h1
  have h2 := pt_end hp h1
  have := Nat.pow_le_pow_right (n := 2) (by decide) (show 1 ≤ n by have := hp.1; omega)
  omega
end Go.Proofs.YtbkiedhaacapbaaGreat

