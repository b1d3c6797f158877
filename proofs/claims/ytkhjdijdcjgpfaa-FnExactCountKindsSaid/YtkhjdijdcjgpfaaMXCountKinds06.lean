/- Texts put together: Flip, FlipT, TOf, AllP, MapI, RngF. -/
import Derived.Test.YtkhjdijdcjgpfaaMXCountKinds01
import Derived.Test.YtkhjdijdcjgpfaaMXCountKinds02
import Derived.Test.YtkhjdijdcjgpfaaMXCountKinds05
import Derived.Deep.RegionHeld3
import Derived.Deep.RegionLawGrows
import Derived.MapKept
import Derived.RangeFuncNested
import Derived.RangeFuncBound
import Derived.RangeFuncCalls
import Derived.RangeFuncLeaves
import Derived.OwnWalkIn
import Derived.TacticsInMore
import Derived.LoopNIn
import Derived.LoopIn
namespace Go.Proofs.Ytkhjdijdcjgpfaa
open Go.RowKit Go.Sort
set_option maxRecDepth 100000

/-- one digit turned over -/
def xorI (x : Int) (b : Nat) : Int := bits BinOp.xor IntKind.i64 x (wrap64 (2 ^ b))
def flipL (xs : List Int) (a b : Nat) : List Int := (xs.set a (xorI (xs.getD a 0) b)).set b (xorI ((xs.set a (xorI (xs.getD a 0) b)).getD b 0) a)
theorem flipL_len (xs : List Int) (a b : Nat) : (flipL xs a b).length = xs.length := by simp [flipL]
set_option maxHeartbeats 2000000 in
theorem flipped_any (s : Int) (sl : Value) (xs : List Int) (a b : Nat) (w : World) (h : Rd w sl xs) (hl : xs.length ≤ 8) (ha : a < xs.length) (hb : b < xs.length) :
    Calls Try.prog 87 #[.agg #[.int .i64 s, sl], .int .i64 a, .int .i64 b] w fun e w' => ∃ sl', e = .returned (.agg #[.int .i64 s, sl']) ∧ Own w' w.heap.size sl' (flipL xs a b) ∧ Below w.heap.size w w' := by
  have HR := Lib.hid h
  obtain ⟨A, c, rfl, -, -, -⟩ := h
  go_enter Try.func87, Try.ntmps87
  go_wp2_with fail
  have b0 := (below_alloc1 w (.cells #[.int .i64 s, .slice A xs.length c] 25)).alloc (by simp) (.cells #[.int .i64 0, .slice none 0 0] 25)
  have x0 := (TBox.new w s (.slice A xs.length c) 25).below (below_alloc1 _ (.cells #[.int .i64 0, .slice none 0 0] 25))
  have t0 := BoxF.new (w.alloc (.cells #[.int .i64 s, .slice A xs.length c] 25)) 0 (.slice none 0 0) 25
  simp only [World.size_alloc] at t0
  generalize (w.alloc (.cells #[.int .i64 s, .slice A xs.length c] 25)).alloc (.cells #[.int .i64 0, .slice none 0 0] 25) = w0 at *
  have HX0 := Lib.hid x0
  have HB0 := Lib.hid b0
  have HT0 := Lib.hid t0
  clear x0 b0 t0
  have y0_0 := HX0.out.1
  have y1_0 := HX0.out.2
  have hg0 := HX0.out.1
  have hgt0 : w.heap.size + 1 < w0.heap.size := HT0.out.gt
  have HDX := Lib.hid (show TBox w0.drew w.heap.size s (.slice A xs.length c) from HX0.out)
  have HDT := Lib.hid (show BoxF w0.drew (w.heap.size + 1) 0 (.slice none 0 0) from HT0.out)
  have HDB := Lib.hid (show Below w.heap.size w w0.drew from ⟨HB0.out.os, HB0.out.tape, HB0.out.output, HB0.out.size, HB0.out.block⟩)
  have bA := below_alloc1 w0 (.cells #[.int .i64 0, .slice none 0 0] 25)
  have hXA := HX0.out.below bA
  have hTA := HT0.out.below bA
  have HAX := Lib.hid (show TBox (w0.alloc (.cells #[.int .i64 0, .slice none 0 0] 25)).drew w.heap.size s (.slice A xs.length c) from hXA)
  have HAT := Lib.hid (show BoxF (w0.alloc (.cells #[.int .i64 0, .slice none 0 0] 25)).drew (w.heap.size + 1) 0 (.slice none 0 0) from hTA)
  have HAU := Lib.hid (show BoxF (w0.alloc (.cells #[.int .i64 0, .slice none 0 0] 25)).drew w0.heap.size 0 (.slice none 0 0) from BoxF.new w0 0 (.slice none 0 0) 25)
  have HAB := Lib.hid (show Below w.heap.size w (w0.alloc (.cells #[.int .i64 0, .slice none 0 0] 25)).drew from (let q := Below.then HB0.out bA; ⟨q.os, q.tape, q.output, q.size, q.block⟩))
  have ya0 := hXA.1
  have ya1 := hXA.2
  clear bA hXA hTA hg0
  go_region_held3 (fun W => W.cell? ⟨w.heap.size, 0, none⟩ = some (.int .i64 s) ∧ W.cell? ⟨w.heap.size, 1, none⟩ = some (.slice A xs.length c))
    (first | exact ⟨y0_0, y1_0⟩ | exact ⟨ya0, ya1⟩ | exact ⟨y0_1, y1_1⟩ | exact ⟨yb0, yb1⟩ | exact ⟨yc0, yc1⟩)
    (first
      | (go_at_call 101; refine (clone_any (.slice A xs.length c) xs w0.drew (HR.out.below HDB.out) (by omega) (by omega)).mono ?_; rintro e w1 ⟨v1, rfl, ho1, hb1⟩; obtain ⟨Y, cy, rfl, hcy, hly, hgy⟩ := ho1.form; have HX1 := Lib.hid (HDX.out.below hb1); have HT1 := Lib.hid (HDT.out.below hb1); have HB1 := Lib.hid (Below.then HDB.out hb1); have y0_1 := HX1.out.1; have y1_1 := HX1.out.2; have HO1 := Lib.hid (show Own w1 w0.heap.size _ _ from ho1); have hXb := HX1.out.below (below_alloc1 w1 (.cells #[.int .i64 0, .slice none 0 0] 25)); have yb0 := hXb.1; have yb1 := hXb.2; have hXc := HX1.out.below (below_alloc1 w1 (.cells #[.int .i64 s, .slice Y xs.length cy] 25)); have yc0 := hXc.1; have yc1 := hXc.2; have WAY : Hid (0 = 0) := rfl; have hs1 := hb1.size; clear hXb hXc ho1 hb1)
      | (go_at_call 101; refine (clone_any (.slice A xs.length c) xs (w0.alloc (.cells #[.int .i64 0, .slice none 0 0] 25)).drew (HR.out.below HAB.out) (by omega) (by omega)).mono ?_; rintro e w1 ⟨v1, rfl, ho1, hb1⟩; obtain ⟨Y, cy, rfl, hcy, hly, hgy⟩ := ho1.form; have HX1 := Lib.hid (HAX.out.below hb1); have HT1 := Lib.hid (HAT.out.below hb1); have HU1 := Lib.hid (HAU.out.below hb1); have HB1 := Lib.hid (Below.then HAB.out hb1); have y0_1 := HX1.out.1; have y1_1 := HX1.out.2; have u0 := HU1.out.1.1; have u1 := HU1.out.1.2; have uf0 := HU1.out.2 0; have uf1 := HU1.out.2 1; have HO1 := Lib.hid (show Own w1 (w0.alloc (.cells #[.int .i64 0, .slice none 0 0] 25)).heap.size _ _ from ho1); have hs1 := hb1.size; have hXc := (HX1.out.kept (setCell_grown _ ⟨w0.heap.size, 0, none⟩ (.int .i64 s)) (by simp; omega)).kept (setCell_grown _ ⟨w0.heap.size, 1, none⟩ (.slice Y xs.length cy)) (by simp; omega); have yc0 := hXc.1; have yc1 := hXc.2; clear hXc ho1 hb1))
  all_goals
    obtain ⟨gy, rfl, hgy1, hgy2⟩ := hgy (by omega)
    clear y0_0 y1_0 y0_1 y1_1 yc0 yc1 ya0 ya1
    first
      | (clear yb0 yb1
         have hs2 : w0.heap.size ≤ w1.heap.size := hs1
         have hs3 : w0.heap.size ≤ gy := hgy1
         have HU := Lib.hid (BoxF.new w1 s (.slice (some ⟨gy, 0, none⟩) xs.length cy) 25)
         have b2 := below_alloc1 w1 (.cells #[.int .i64 s, .slice (some ⟨gy, 0, none⟩) xs.length cy] 25)
         have HT := Lib.hid (HT1.out.below b2)
         have HO := Lib.hid (HO1.out.below b2)
         have HB := Lib.hid (Below.then HB1.out b2)
         have hgu : w.heap.size + 1 < w1.heap.size ∧ w1.heap.size ≠ gy := by omega
         clear b2 HO1 HT1 HB1 HX1
         generalize w1.alloc (.cells #[.int .i64 s, .slice (some ⟨gy, 0, none⟩) xs.length cy] 25) = W at *
         generalize w1.heap.size = gu at *)
      | (have hs2 : w0.heap.size + 1 ≤ gy := by simpa using hgy1
         have HU := Lib.hid (HU1.out.set01 s (.slice (some ⟨gy, 0, none⟩) xs.length cy))
         have HT := Lib.hid ((HT1.out.kept (setCell_grown _ ⟨w0.heap.size, 0, none⟩ (.int .i64 s)) (by simp; omega)).kept (setCell_grown _ ⟨w0.heap.size, 1, none⟩ (.slice (some ⟨gy, 0, none⟩) xs.length cy)) (by simp; omega))
         have HO := Lib.hid (((HO1.out.mono (show w0.heap.size ≤ _ by simp)).kept (setCell_grown _ ⟨w0.heap.size, 0, none⟩ (.int .i64 s)) (by right; simp [Value.ownBlock]; omega)).kept (setCell_grown _ ⟨w0.heap.size, 1, none⟩ (.slice (some ⟨gy, 0, none⟩) xs.length cy)) (by right; simp [Value.ownBlock]; omega))
         have HB := Lib.hid ((HB1.out.setCell (p := ⟨w0.heap.size, 0, none⟩) (show w.heap.size ≤ w0.heap.size by omega) (.int .i64 s)).setCell (p := ⟨w0.heap.size, 1, none⟩) (show w.heap.size ≤ w0.heap.size by omega) (.slice (some ⟨gy, 0, none⟩) xs.length cy))
         have hgu : w.heap.size + 1 < w0.heap.size ∧ w0.heap.size ≠ gy := by omega
         clear u0 u1 uf0 uf1 HO1 HT1 HB1 HX1 HU1
         generalize ((w1.setCell ⟨w0.heap.size, 0, none⟩ (.int .i64 s)).setCell ⟨w0.heap.size, 1, none⟩ (.slice (some ⟨gy, 0, none⟩) xs.length cy)) = W at *
         obtain ⟨gu, hgue⟩ : ∃ gu, gu = w0.heap.size := ⟨_, rfl⟩
         rw [← hgue] at HU hgu ⊢
         clear hgue)
    have hgy3 : w.heap.size + 1 < gy := by omega
    clear hgy1 hgy2
    have za := (HO.out.at1 rfl (by omega)).1 a ha
    obtain ⟨x, hx⟩ : ∃ x, x = xs.getD a 0 := ⟨_, rfl⟩
    obtain ⟨x1, hx1⟩ : ∃ x1, x1 = bits BinOp.xor IntKind.i64 x (wrap64 (2 ^ b)) := ⟨_, rfl⟩
    have HE1 : Hid (x1 = xorI (xs.getD a 0) b) := by unfold Hid xorI; rw [hx1, hx]
    rw [← hx] at za
    have hxor := hx1.symm
    have c1 := cell_regrown HU.out.1.2
    have c2 := cell_regrown za
    clear za hx1 hx
    go_wp2_with fail
    refine wp_region_below_tail 9 (by kernel_rfl) (by kernel_rfl) ?_
    simp only [List.take_succ_cons, List.take_zero, List.drop_succ_cons, List.drop_zero]
    repeat (go_big_quiet_step (first | (with_reducible fail)))
    refine wpQuiet_nil ?_
    intro wq hbq0
    have hbq := Lib.hid hbq0
    clear hbq0
    clear c1 c2 hxor
    have O2 := HO.out.below hbq.out
    obtain ⟨hx2, hf2⟩ := O2.at1 rfl (by omega)
    have za := hx2 a ha
    have fa := hf2 a
    have O3 := (O2.set_ rfl a x1).1
    have HU3 := Lib.hid ((HU.out.below hbq.out).kept (setCell_grown _ ⟨gy, a, none⟩ (.int .i64 x1)) (by simp; omega))
    have HT3 := Lib.hid ((HT.out.below hbq.out).kept (setCell_grown _ ⟨gy, a, none⟩ (.int .i64 x1)) (by simp; omega))
    have HB3 := Lib.hid ((Below.then HB.out hbq.out).setCell (p := ⟨gy, a, none⟩) (show w.heap.size ≤ gy by omega) (.int .i64 x1))
    have HO3 := Lib.hid O3
    have hl1 : (xs.set a x1).length = xs.length := by simp
    clear hx2 hf2 O2 O3 HO HU HT HB
    generalize hL : xs.set a x1 = L at *
    have HL := Lib.hid hL
    clear hL
    generalize hn : xs.length = n at *
    have HN := Lib.hid hn
    go_wp2_with fail
    clear za fa
    have zb := (HO3.out.at1 hl1 (by omega)).1 b hb
    obtain ⟨y, hy⟩ : ∃ y, y = L.getD b 0 := ⟨_, rfl⟩
    obtain ⟨y1, hy1⟩ : ∃ y1, y1 = bits BinOp.xor IntKind.i64 y (wrap64 (2 ^ a)) := ⟨_, rfl⟩
    have HE2 : Hid (y1 = xorI (L.getD b 0) a) := by unfold Hid xorI; rw [hy1, hy]
    rw [← hy] at zb
    have hxor := hy1.symm
    have c1 := cell_regrown HU3.out.1.2
    have c2 := cell_regrown zb
    clear zb hy1 hy
    refine wp_region_below_tail 9 (by kernel_rfl) (by kernel_rfl) ?_
    simp only [List.take_succ_cons, List.take_zero, List.drop_succ_cons, List.drop_zero]
    repeat (go_big_quiet_step (first | (with_reducible fail)))
    refine wpQuiet_nil ?_
    intro wq hbq0
    have hbq := Lib.hid hbq0
    clear hbq0
    clear c1 c2 hxor
    have O2 := HO3.out.below hbq.out
    obtain ⟨hx2, hf2⟩ := O2.at1 hl1 (by omega)
    have zb := hx2 b hb
    have fb := hf2 b
    have O5 := (O2.set_ hl1 b y1).1
    have hl5 : (L.set b y1).length = n := by simp [hl1]
    have HE : Hid (L.set b y1 = flipL xs a b) := by unfold Hid flipL; rw [← HE1.out, HL.out, ← HE2.out]
    have HU5 := (HU3.out.below hbq.out).kept (setCell_grown _ ⟨gy, b, none⟩ (.int .i64 y1)) (by simp; omega)
    have HT5 := (HT3.out.below hbq.out).kept (setCell_grown _ ⟨gy, b, none⟩ (.int .i64 y1)) (by simp; omega)
    have HB5 := Lib.hid ((Below.then HB3.out hbq.out).setCell (p := ⟨gy, b, none⟩) (show w.heap.size ≤ gy by omega) (.int .i64 y1))
    have HO5 := Lib.hid O5
    have HU3q := HU3.out.below hbq.out
    have HT3q := HT3.out.below hbq.out
    clear hx2 hf2 O2 O5 HO3 HU3 HT3 HB3 hbq
    have HTq := HT3q
    have u0 := HU3q.1.1
    have u1 := HU3q.1.2
    have v0 := HT3q.1.1
    have v1 := HT3q.1.2
    have f0 := HT3q.2 0
    have f1 := HT3q.2 1
    have V0 := Lib.hid HT5.1.1
    have V1 := Lib.hid HT5.1.2
    have hgu2 := hgu.2
    have hgu3 : gy ≠ gu := fun e => hgu2 e.symm
    have hgu4 : gy ≠ w.heap.size + 1 := by omega
    clear HTq HU5 HT5
    have HOx := Lib.hid ((HO5.out.kept (setCell_grown _ ⟨w.heap.size + 1, 0, none⟩ (.int .i64 s)) (by right; simp [Value.ownBlock]; omega)).kept (setCell_grown _ ⟨w.heap.size + 1, 1, none⟩ (.slice (some ⟨gy, 0, none⟩) n cy)) (by right; simp [Value.ownBlock]; omega))
    have HBx := Lib.hid ((HB5.out.setCell (p := ⟨w.heap.size + 1, 0, none⟩) (by simp) (.int .i64 s)).setCell (p := ⟨w.heap.size + 1, 1, none⟩) (by simp) (.slice (some ⟨gy, 0, none⟩) n cy))
    have R0 : Hid ((((wq.setCell ⟨gy, b, none⟩ (.int .i64 y1)).setCell ⟨w.heap.size + 1, 0, none⟩ (.int .i64 s)).setCell ⟨w.heap.size + 1, 1, none⟩ (.slice (some ⟨gy, 0, none⟩) n cy)).cell? ⟨w.heap.size + 1, 0, none⟩ = some (.int .i64 s)) := (World.cell?_setCell_other _ _ _ _ (by simp)).trans (World.cell?_setCell_same _ _ _ V0.out)
    have R1 : Hid ((((wq.setCell ⟨gy, b, none⟩ (.int .i64 y1)).setCell ⟨w.heap.size + 1, 0, none⟩ (.int .i64 s)).setCell ⟨w.heap.size + 1, 1, none⟩ (.slice (some ⟨gy, 0, none⟩) n cy)).cell? ⟨w.heap.size + 1, 1, none⟩ = some (.slice (some ⟨gy, 0, none⟩) n cy)) := World.cell?_setCell_same _ _ _ ((World.cell?_setCell_other _ _ _ _ (by simp)).trans V1.out)
    clear HU3q HT3q
    go_wp2
    have r0 := R0.out
    have r1 := R1.out
    refine bodyPost_ret (v := .agg #[.int .i64 s, .slice (some ⟨gy, 0, none⟩) n cy]) (by simp only [results, Try.results87]; simp [go_sem, r0, r1]) rfl ⟨_, rfl, ?_, HBx.out⟩
    rw [← HE.out]
    exact HOx.out.mono (by omega)
end Go.Proofs.Ytkhjdijdcjgpfaa

namespace Go.Proofs.Ytkhjdijdcjgpfaa
open Go.RowKit Go.Sort
set_option maxRecDepth 100000
theorem xor_nat {S b : Nat} (hS : S < 256) (hb : b < 8) : xorI (S : Int) b = ((S ^^^ 2 ^ b : Nat) : Int) := by
  unfold xorI
  rw [shl_nat b (by omega)]
  have : 2 ^ b < 256 := pow_lt8 hb
  exact i64_xor_nat S (2 ^ b) (by omega) (by omega)
theorem flip_at {s : Int} {xs : List Int} (hp : tourP s xs) {a b : Nat} (ha : a < xs.length) (hb : b < xs.length) (hab : a ≠ b) (x : Nat) (hx : x < xs.length) :
    ∃ S : Nat, (flipL xs a b).getD x 0 = (S : Int) ∧ S < 2 ^ xs.length ∧ ∀ y, S.testBit y = ((bt xs x y) ^^ ((x == a && y == b) || (x == b && y == a))) := by
  have h8 : xs.length ≤ 8 := by have h1 := hp.1; have h2 := hp.2.1; omega
  have hw := fun z (hz : z < xs.length) => tour_wins hp hz
  have hsn : s.toNat = xs.length := by have := hp.2.1; omega
  have pw : ∀ c, c < xs.length → 2 ^ c < 2 ^ xs.length := fun c hc => Nat.pow_lt_pow_right (by decide) hc
  have e1 : (xs.set a (xorI (xs.getD a 0) b)).getD b 0 = xs.getD b 0 := getD_set_other _ hab
  unfold flipL
  rw [e1]
  have wa := hw a ha
  have wb := hw b hb
  rw [hsn] at wa wb
  by_cases h1 : x = b
  · subst h1
    rw [getD_set_same _ (by simp [hx]), wb.1, xor_nat wb.2.2 (by omega)]
    refine ⟨_, rfl, Nat.xor_lt_two_pow wb.2.1 (pw a ha), fun y => ?_⟩
    rw [Nat.testBit_xor, Nat.testBit_two_pow]
    have q : (x == a) = false := by simp; omega
    by_cases e : a = y
    · subst e; simp [q, bt]
    · have : (y == a) = false := by simp; omega
      simp [q, bt, e, this]
  · rw [getD_set_other _ (Ne.symm h1)]
    by_cases h2 : x = a
    · subst h2
      rw [getD_set_same _ hx, wa.1, xor_nat wa.2.2 (by omega)]
      refine ⟨_, rfl, Nat.xor_lt_two_pow wa.2.1 (pw b hb), fun y => ?_⟩
      rw [Nat.testBit_xor, Nat.testBit_two_pow]
      have q : (x == b) = false := by simp; omega
      by_cases e : b = y
      · subst e; simp [q, bt]
      · have : (y == b) = false := by simp; omega
        simp [q, bt, e, this]
    · rw [getD_set_other _ (Ne.symm h2)]
      have wx := hw x hx
      rw [hsn] at wx
      refine ⟨_, wx.1, wx.2.1, fun y => ?_⟩
      have q1 : (x == a) = false := by simp; omega
      have q2 : (x == b) = false := by simp; omega
      simp [q1, q2, bt]
theorem flip_tour {s : Int} {xs : List Int} (hp : tourP s xs) {a b : Nat} (ha : a < xs.length) (hb : b < xs.length) (hab : a ≠ b) : tourP s (flipL xs a b) := by
  have hl := flipL_len xs a b
  have ht := tour_bits hp
  have hbt : ∀ x y, x < xs.length → bt (flipL xs a b) x y = ((bt xs x y) ^^ ((x == a && y == b) || (x == b && y == a))) := fun x y hx => by
    obtain ⟨S, e, -, h⟩ := flip_at hp ha hb hab x hx
    show (winsN (flipL xs a b) x).testBit y = _
    unfold winsN
    rw [e, Int.toNat_natCast]
    exact h y
  refine tour_of_bits hp.1 (by rw [hl]; exact hp.2.1) (fun i hi => ?_) (fun x hx => ?_) (fun x y hx hy hxy => ?_)
  · rw [hl] at hi ⊢
    obtain ⟨S, e, h, -⟩ := flip_at hp ha hb hab i hi
    exact ⟨S, e, h⟩
  · rw [hl] at hx
    rw [hbt x x hx, ht.2.1 x hx]
    have q : ((x == a && x == b) || (x == b && x == a)) = false := by
      rcases e : ((x == a && x == b) || (x == b && x == a)) with _ | _
      · rfl
      · simp at e; omega
    rw [q]; rfl
  · rw [hl] at hx hy
    rw [hbt x y hx, hbt y x hy, ht.2.2 x y hx hy hxy]
    have q : ((y == a && x == b) || (y == b && x == a)) = ((x == a && y == b) || (x == b && y == a)) := by
      rw [Bool.or_comm, Bool.and_comm (y == b), Bool.and_comm (y == a)]
    rw [q]
    cases bt xs y x <;> cases ((x == a && y == b) || (x == b && y == a)) <;> rfl
end Go.Proofs.Ytkhjdijdcjgpfaa

namespace Go.Proofs.Ytkhjdijdcjgpfaa
open Go.RowKit Go.Sort
set_option maxRecDepth 100000

def toQ (p : Nat → Nat → Bool) (a b : Nat) : Bool := !(a == b) && p a b
def toL (p : Nat → Nat → Bool) (n : Nat) : List Int := (List.range n).map fun a => ((setOf (toQ p a) n : Nat) : Int)
theorem toL_len (p : Nat → Nat → Bool) (n : Nat) : (toL p n).length = n := by simp [toL]
/-- the rows that grow -/
def toRow (p : Nat → Nat → Bool) (N : List Int) (n a j : Nat) : Prop := ∀ i, i < n → N.getD i 0 = if i < a then ((setOf (toQ p i) n : Nat) : Int) else if i = a then ((setOf (toQ p a) j : Nat) : Int) else 0
theorem toRow_start {p : Nat → Nat → Bool} {n : Nat} : toRow p (List.replicate n 0) n 0 0 := fun i hi => by
  have : (List.replicate n (0 : Int)).getD i 0 = 0 := by simp [hi]
  rw [this]; simp [setOf]
theorem toRow_next {p : Nat → Nat → Bool} {N : List Int} {n a : Nat} (h : toRow p N n a n) : toRow p N n (a + 1) 0 := fun i hi => by
  rw [h i hi]
  by_cases h1 : i < a
  · rw [if_pos h1, if_pos (by omega)]
  · rw [if_neg h1]
    by_cases h2 : i = a
    · subst h2; rw [if_pos rfl, if_pos (by omega)]
    · rw [if_neg h2, if_neg (by omega)]; simp [setOf]
theorem toRow_no {p : Nat → Nat → Bool} {N : List Int} {n a j : Nat} (h : toRow p N n a j) (hq : toQ p a j = false) : toRow p N n a (j + 1) := fun i hi => by
  rw [h i hi]
  simp [setOf, hq]
theorem toRow_at {p : Nat → Nat → Bool} {N : List Int} {n a j : Nat} (h : toRow p N n a j) (ha : a < n) : N.getD a 0 = ((setOf (toQ p a) j : Nat) : Int) := by
  rw [h a ha, if_neg (by omega), if_pos rfl]
theorem setOf_or {q : Nat → Bool} {j : Nat} (hj : j ≤ 60) (hq : q j = true) : setOf q j ||| 2 ^ j = setOf q (j + 1) := by
  have h1 := setOf_lt q j
  have h2 : (setOf q j).testBit j = false := Nat.testBit_lt_two_pow h1
  have h3 : setOf q j < 2 ^ 62 := Nat.lt_of_lt_of_le h1 (Nat.pow_le_pow_right (by decide) (by omega))
  rw [← add_or h3 (by omega) h2]
  simp [setOf, hq]
theorem toRow_yes {p : Nat → Nat → Bool} {N : List Int} {n a j : Nat} {v : Nat} (hl : N.length = n) (h : toRow p N n a j) (ha : a < n) (hv : v = setOf (toQ p a) (j + 1)) : toRow p (N.set a v) n a (j + 1) := fun i hi => by
  by_cases h2 : i = a
  · subst h2
    rw [getD_set_same _ (by omega), if_neg (by omega), if_pos rfl, hv]
  · rw [getD_set_other _ (Ne.symm h2), h i hi, if_neg h2, if_neg h2]
theorem toRow_end {p : Nat → Nat → Bool} {N : List Int} {n : Nat} (hl : N.length = n) (h : toRow p N n n 0) : N = toL p n :=
  list_ext0 hl (toL_len p n) fun i hi => by
    rw [h i hi, if_pos hi]
    simp [toL, hi]
set_option maxHeartbeats 4000000 in
theorem tourOf_any (n : Nat) (hn1 : 1 ≤ n) (hn : n ≤ 8) (F : FuncId) (caps : Array Value) (hE : Enters F) (p : Nat → Nat → Bool) (w : World)
    (hf : ∀ a b, a < n → b < n → ∀ w', Below w.heap.size w w' → Calls Try.prog F (#[.int .i64 a, .int .i64 b] ++ caps) w' fun e w'' => e = .returned (.bool (p a b)) ∧ Below w'.heap.size w' w'') :
    Calls Try.prog 92 #[.int .i64 n, .func (.func F) #[] caps] w fun e w' => ∃ sl', e = .returned (.agg #[.int .i64 n, sl']) ∧ Own w' w.heap.size sl' (toL p n) ∧ Below w.heap.size w w' := by
  obtain ⟨i0, hi, hz0, hz1, hz2⟩ := info_parts i64_info
  have HF := Lib.hid hf
  clear hf
  have hE' : ∀ (args : Array Value) (W : World), (callFunc F args).run Try.prog W = .ok (.enter F args) W := hE
  have hT0 := BoxF.new w 0 (.slice none 0 0) 25
  have HT0 := Lib.hid hT0
  have HB0 := Lib.hid (below_alloc1 w (.cells #[.int .i64 0, .slice none 0 0] 25))
  clear hT0
  go_enter Try.func92, Try.ntmps92
  go_wp2_with (at_make; refine wpList_make_full _ rfl _ _ 23 rfl (w.alloc (.cells #[.int .i64 0, .slice none 0 0] 25)).heap.size 3 i0 (.int .i64 0) 1 Try.underlying23 hi hz0 hz1 _ _ _ _ n rfl rfl rfl rfl (by rw [hz2]; omega) (by unfold maxLen; omega) (Nat.le_refl _) ?_; intro w1 hown hg1; have hb1 : Below (w.alloc (.cells #[.int .i64 0, .slice none 0 0] 25)).heap.size (w.alloc (.cells #[.int .i64 0, .slice none 0 0] 25)) w1 := (Below.refl _ _).grown hg1 (Nat.le_refl _) (by simp); have HT1 := Lib.hid (HT0.out.below hb1); have HB1 := Lib.hid (Below.then HB0.out hb1); have HOWN := Lib.hid hown; have hsz1 := hb1.size; clear hown hg1 hb1)
  simp only [World.size_alloc] at HOWN hsz1
  have hgl := (World.ownsRow.lt HOWN.out (w.heap.size + 1) rfl).2
  have bU := below_alloc1 w1 (.cells #[.int .i64 n, .slice (some ⟨w.heap.size + 1, 0, none⟩) n n] 25)
  have HU2 := Lib.hid (BoxF.new w1 n (.slice (some ⟨w.heap.size + 1, 0, none⟩) n n) 25)
  have HT2 := Lib.hid (HT1.out.below bU)
  have HB2 := Lib.hid (Below.then HB1.out bU)
  have HO2 : Hid (Own (w1.alloc (.cells #[.int .i64 n, .slice (some ⟨w.heap.size + 1, 0, none⟩) n n] 25)) (w.heap.size + 1) (.slice (some ⟨w.heap.size + 1, 0, none⟩) n n) (List.replicate n 0)) := by
    have ho := HOWN.out
    rw [ints_made'] at ho
    refine Own.below (w := w1) ?_ bU
    unfold Own
    rw [List.length_replicate]
    exact ho
  generalize w1.alloc (.cells #[.int .i64 n, .slice (some ⟨w.heap.size + 1, 0, none⟩) n n] 25) = w2 at *
  generalize hgt : w1.heap.size = gt at *
  generalize hgl' : w.heap.size + 1 = gl at *
  have HG : Hid (gl = w.heap.size + 1) := hgl'.symm
  clear bU HOWN HT1 HB1 HT0 HB0 hgt hgl'
  have hgg : gl < gt := by omega
  go_loopw [13] (fun i wr => ∃ (a : Nat) (N : List Int), a ≤ n ∧ i = .int .i64 a ∧ N.length = n ∧ Own wr gl (.slice (some ⟨gl, 0, none⟩) n n) N ∧ Hid (toRow p N n a 0) ∧ BoxF wr gt n (.slice (some ⟨gl, 0, none⟩) n n) ∧ BoxF wr w.heap.size 0 (.slice none 0 0) ∧ Below w.heap.size w wr) (fun i _ => n - (intOf i).toNat)
  case atStart => exact ⟨0, _, by omega, rfl, by simp, HO2.out, toRow_start, HU2.out, HT2.out, HB2.out⟩
  case round =>
    obtain ⟨wa, rfl⟩ : ∃ x, x = wr := ⟨_, rfl⟩
    obtain ⟨a, N, ha, rfl, hNl, hown, HP, hu, ht, hb⟩ := hrel
    have HOa := Lib.hid hown
    have HUa := Lib.hid hu
    have HTa := Lib.hid ht
    have HBa := Lib.hid hb
    clear hown hu ht hb
    by_cases hlta : a < n
    · go_wp2
      go_loopw [17] (fun i wr => ∃ (b : Nat) (N : List Int), b ≤ n ∧ i = .int .i64 b ∧ N.length = n ∧ Own wr gl (.slice (some ⟨gl, 0, none⟩) n n) N ∧ Hid (toRow p N n a b) ∧ BoxF wr gt n (.slice (some ⟨gl, 0, none⟩) n n) ∧ BoxF wr w.heap.size 0 (.slice none 0 0) ∧ Below w.heap.size w wr) (fun i _ => n - (intOf i).toNat)
      case atStart => exact ⟨0, N, by omega, rfl, hNl, HOa.out, HP, HUa.out, HTa.out, HBa.out⟩
      case round =>
        obtain ⟨b, M, hbn, rfl, hMl, hown, HP2, hu, ht, hb⟩ := hrel
        have HO := Lib.hid hown
        have HU := Lib.hid hu
        have HT := Lib.hid ht
        have HB := Lib.hid hb
        clear hown hu ht hb
        by_cases hltb : b < n
        · by_cases hab : a = b
          · subst hab
            have hq : toQ p a a = false := by simp [toQ]
            have HR := Lib.hid (toRow_no HP2.out hq)
            have hne : ((a : Int) != (a : Int)) = false := by simp
            go_wp2
            go_roundw
            case rel => exact ⟨a + 1, M, by omega, by go_num, hMl, HO.out, HR.out, HU.out, HT.out, HB.out⟩
            case measure => simp [intOf]; omega
          · have hne : ((a : Int) != (b : Int)) = true := by simp; omega
            go_wp2_with fail
            refine (HF.out a b hlta hltb _ HB.out).mono ?_
            rintro e w5 ⟨rfl, hb5⟩
            have HO5 := Lib.hid (HO.out.below hb5)
            have HU5 := Lib.hid (HU.out.below hb5)
            have HT5 := Lib.hid (HT.out.below hb5)
            have HB5 := Lib.hid (Below.then HB.out hb5)
            clear hb5 HO HU HT HB
            rcases hq1 : p a b with _ | _
            · have hq : toQ p a b = false := by simp [toQ, hq1]
              have HR := Lib.hid (toRow_no HP2.out hq)
              go_wp2
              go_roundw
              case rel => exact ⟨b + 1, M, by omega, by go_num, hMl, HO5.out, HR.out, HU5.out, HT5.out, HB5.out⟩
              case measure => simp [intOf]; omega
            · have hq : toQ p a b = true := by simp [toQ, hq1, hab]
              have za := (HO5.out.at1 hMl (by omega)).1 a hlta
              rw [toRow_at HP2.out hlta] at za
              have hS := setOf_small (toQ p a) (show b ≤ 8 by omega)
              have HS := Lib.hid (setOf_or (j := b) (by omega) hq)
              have hor := or_shl (setOf (toQ p a) b) b (by omega) (by omega)
              have hS2 := setOf_small (toQ p a) (show b + 1 ≤ 8 by omega)
              rw [HS.out] at hor
              generalize hX : setOf (toQ p a) (b + 1) = X at *
              have HX := Lib.hid hX
              generalize setOf (toQ p a) b = S at *
              go_wp2_with fail
              have c1 := cell_regrown HU5.out.1.2
              have c2 := cell_regrown za
              clear za hX hq hq1
              refine wp_region_below_tail 9 (by kernel_rfl) (by kernel_rfl) ?_
              simp only [List.take_succ_cons, List.take_zero, List.drop_succ_cons, List.drop_zero]
              repeat (go_big_quiet_step (first | (with_reducible fail)))
              refine wpQuiet_nil ?_
              intro wq hbq0
              have hbq := Lib.hid hbq0
              clear hbq0
              clear c1 c2 hor
              have O2 := HO5.out.below hbq.out
              obtain ⟨hx2, hf2⟩ := O2.at1 hMl (by omega)
              have za := hx2 a hlta
              have fa := hf2 a
              have O3 := (O2.set_ hMl a (X : Int)).1
              have HO3 := Lib.hid O3
              have HU3 := Lib.hid ((HU5.out.below hbq.out).kept (setCell_grown _ ⟨gl, a, none⟩ (.int .i64 X)) (by simp; omega))
              have HT3 := Lib.hid ((HT5.out.below hbq.out).kept (setCell_grown _ ⟨gl, a, none⟩ (.int .i64 X)) (by have := HG.out; simp; omega))
              have HB3 := Lib.hid ((Below.then HB5.out hbq.out).setCell (p := ⟨gl, a, none⟩) (show w.heap.size ≤ gl by have := HG.out; omega) (.int .i64 X))
              clear hx2 hf2 O2 O3 HO5 HU5 HT5 HB5 hbq
              go_wp2
              go_roundw
              case rel => exact ⟨b + 1, M.set a X, by omega, by go_num, by simp [hMl], HO3.out, toRow_yes hMl HP2.out hlta HX.out.symm, HU3.out, HT3.out, HB3.out⟩
              case measure => simp [intOf]; omega
        · obtain rfl : n = b := by omega
          have HR := Lib.hid (toRow_next HP2.out)
          go_wp2
          go_roundw
          case rel => exact ⟨a + 1, M, by omega, by go_num, hMl, HO.out, HR.out, HU.out, HT.out, HB.out⟩
          case measure => simp [intOf]; omega
    · obtain rfl : n = a := by omega
      have HE := Lib.hid (toRow_end hNl HP.out)
      have u0 := HUa.out.1.1
      have u1 := HUa.out.1.2
      have v0 := HTa.out.1.1
      have v1 := HTa.out.1.2
      have f0 := HTa.out.2 0
      have f1 := HTa.out.2 1
      have hw2 := HUa.out.gt
      have hgg2 : gt ≠ w.heap.size := by have := HG.out; omega
      have hgg3 : w.heap.size < gl := by have := HG.out; omega
      have HOx := Lib.hid ((HOa.out.kept (setCell_grown _ ⟨w.heap.size, 0, none⟩ (.int .i64 n)) (own_ne (fun k hk => (HOa.out.lt k hk).1) hgg3)).kept (setCell_grown _ ⟨w.heap.size, 1, none⟩ (.slice (some ⟨gl, 0, none⟩) n n)) (own_ne (fun k hk => (HOa.out.lt k hk).1) hgg3))
      have HBx := Lib.hid ((HBa.out.setCell (p := ⟨w.heap.size, 0, none⟩) (Nat.le_refl _) (.int .i64 n)).setCell (p := ⟨w.heap.size, 1, none⟩) (Nat.le_refl _) (.slice (some ⟨gl, 0, none⟩) n n))
      have R0 : Hid (((wa.setCell ⟨w.heap.size, 0, none⟩ (.int .i64 n)).setCell ⟨w.heap.size, 1, none⟩ (.slice (some ⟨gl, 0, none⟩) n n)).cell? ⟨w.heap.size, 0, none⟩ = some (.int .i64 n)) := (World.cell?_setCell_other _ _ _ _ (by simp)).trans (World.cell?_setCell_same _ _ _ v0)
      have R1 : Hid (((wa.setCell ⟨w.heap.size, 0, none⟩ (.int .i64 n)).setCell ⟨w.heap.size, 1, none⟩ (.slice (some ⟨gl, 0, none⟩) n n)).cell? ⟨w.heap.size, 1, none⟩ = some (.slice (some ⟨gl, 0, none⟩) n n)) := World.cell?_setCell_same _ _ _ ((World.cell?_setCell_other _ _ _ _ (by simp)).trans v1)
      go_wp2
      have r0 := R0.out
      have r1 := R1.out
      refine bodyPost_ret (v := .agg #[.int .i64 n, .slice (some ⟨gl, 0, none⟩) n n]) (by simp only [results, Try.results92]; simp [go_sem, r0, r1]) rfl ⟨_, rfl, ?_, HBx.out⟩
      rw [← HE.out]
      exact HOx.out.mono (by omega)
end Go.Proofs.Ytkhjdijdcjgpfaa

namespace Go.Proofs.Ytkhjdijdcjgpfaa
open Go.RowKit Go.Sort
set_option maxRecDepth 100000
/-- one pair: the lowest digit turns its result -/
def alStep (s : Nat × List Int) (a b : Nat) : Nat × List Int := (s.1 / 2, if s.1 % 2 = 1 then flipL s.2 a b else s.2)
def alIn (a : Nat) : Nat → Nat → Nat × List Int → Nat × List Int
  | 0, _, s => s
  | m + 1, b, s => alIn a m (b + 1) (alStep s a b)
def alOut (n : Nat) : Nat → Nat → Nat × List Int → Nat × List Int
  | 0, _, s => s
  | m + 1, a, s => alOut n m (a + 1) (alIn a (n - (a + 1)) (a + 1) s)
def al0 (n : Nat) : List Int := toL (fun a b => decide (b < a)) n
def allL (n code : Nat) : List Int := (alOut n n 0 (code, al0 n)).2
theorem al0_tour {n : Nat} (h1 : 1 ≤ n) (h8 : n ≤ 8) : tourP n (al0 n) := by
  have hl : (al0 n).length = n := toL_len _ _
  have hg : ∀ i, i < n → (al0 n).getD i 0 = ((setOf (toQ (fun a b => decide (b < a)) i) n : Nat) : Int) := fun i hi => by unfold al0 toL; simp [hi]
  have hb : ∀ a b, a < n → b < n → bt (al0 n) a b = (!(a == b) && decide (b < a)) := fun a b ha hb => by
    unfold bt winsN
    rw [hg a ha, Int.toNat_natCast, testBit_setOf]
    simp [hb, toQ]
  refine tour_of_bits ⟨by omega, by omega⟩ (by omega) (fun i hi => ?_) (fun a ha => ?_) (fun a b ha hb' hab => ?_)
  · rw [hl] at hi ⊢
    exact ⟨_, hg i hi, setOf_lt _ _⟩
  · rw [hl] at ha
    rw [hb a a ha ha]; simp
  · rw [hl] at ha hb'
    rw [hb a b ha hb', hb b a hb' ha]
    rcases Nat.lt_or_gt_of_ne hab with h | h
    · simp [show ¬ b < a by omega, h, show ¬ b = a by omega]
    · simp [show ¬ a < b by omega, h, show ¬ a = b by omega]
theorem alStep_tour {n : Nat} {s : Nat × List Int} {a b : Nat} (hp : tourP n s.2) (ha : a < n) (hb : b < n) (hab : a ≠ b) : tourP n (alStep s a b).2 := by
  unfold alStep
  have hl : s.2.length = n := by have := hp.2.1; omega
  dsimp only
  split
  · exact flip_tour hp (by omega) (by omega) hab
  · exact hp
theorem alIn_tour {n a : Nat} (ha : a < n) : ∀ (m b : Nat) (s : Nat × List Int), b + m ≤ n → a < b → tourP n s.2 → tourP n (alIn a m b s).2 := by
  intro m
  induction m with
  | zero => intro b s _ _ h; exact h
  | succ m ih => intro b s hb hab h; exact ih (b + 1) _ (by omega) (by omega) (alStep_tour h ha (by omega) (by omega))
theorem alOut_tour {n : Nat} : ∀ (m a : Nat) (s : Nat × List Int), a + m ≤ n → tourP n s.2 → tourP n (alOut n m a s).2 := by
  intro m
  induction m with
  | zero => intro a s _ h; exact h
  | succ m ih => intro a s ha h; exact ih (a + 1) _ (by omega) (alIn_tour (by omega) _ _ _ (by omega) (by omega) h)
theorem all_tour {n : Nat} (h1 : 1 ≤ n) (h8 : n ≤ 8) (code : Nat) : tourP n (allL n code) := alOut_tour n 0 _ (by omega) (al0_tour h1 h8)
end Go.Proofs.Ytkhjdijdcjgpfaa

namespace Go.Proofs.Ytkhjdijdcjgpfaa
open Go.RowKit Go.Sort Go.MapKept
set_option maxRecDepth 100000
/-- the keys, in the order of their coming -/
def MapK (W : World) (r : Nat) (ks : List Int) : Prop := ∃ es clock, W.heap[r]? = some (.map es clock) ∧ Stamped es clock ∧ es.toList.map (·.key) = ks.map (Value.int .i64)
def insK (ks : List Int) (k : Int) : List Int := if k ∈ ks then ks else ks ++ [k]
theorem mapK_new (W : World) : MapK (W.alloc (.map #[] 0)) W.heap.size [] := ⟨#[], 0, (MapKept.heap_alloc W _).1, stamped_empty 0, rfl⟩
theorem mapK_update {P : Program} {W : World} {r : Nat} {ks : List Int} {mty kt et : TypeId} {d : TypeDesc} (h : MapK W r ks) (hm : P.underlying mty = some (.map kt et)) (hd : P.underlying kt = some d) (hk : ∀ k : Int, IsKey d (.int .i64 k)) (k : Int) (v : Value) :
    ∃ W', (Instr.mapUpdate mty (.map (some r)) (.int .i64 k) v).run P W = .ok () W' ∧ MapK W' r (insK ks k) ∧ W.grownBy W' (some r) := by
  obtain ⟨es, clock, hb, hs, hkeys⟩ := h
  have hks : ∀ x ∈ es.toList, IsKey d x.key := fun x hx => by
    have : x.key ∈ ks.map (Value.int .i64) := by rw [← hkeys]; exact List.mem_map_of_mem hx
    obtain ⟨y, -, e⟩ := List.mem_map.1 this
    rw [← e]; exact hk y
  have hmem : k ∈ ks ↔ ∃ x ∈ es.toList, x.key = .int .i64 k := by
    constructor
    · intro h
      have : Value.int .i64 k ∈ es.toList.map (·.key) := by rw [hkeys]; exact List.mem_map_of_mem h
      obtain ⟨x, hx, e⟩ := List.mem_map.1 this
      exact ⟨x, hx, e⟩
    · rintro ⟨x, hx, e⟩
      have : x.key ∈ ks.map (Value.int .i64) := by rw [← hkeys]; exact List.mem_map_of_mem hx
      obtain ⟨y, hy, e2⟩ := List.mem_map.1 this
      rw [e] at e2
      injection e2 with _ e2
      exact e2 ▸ hy
  have hg : ∀ o, W.grownBy { W with heap := W.heap.setIfInBounds r o } (some r) := fun o =>
    ⟨rfl, rfl, rfl, by simp, fun i hi hne => by
      have : r ≠ i := fun e => hne (by rw [e])
      simp [this]⟩
  rcases findNow_spec (hk k) es.toList 0 hks with ⟨h1, h2⟩ | ⟨j, e, h1, h2, h3⟩
  · refine ⟨_, by simp [Instr.mapUpdate, run_underlying hm, MapKept.run_getObj_map hb, run_checkKey hd (hk k), run_findKey hd h1, MapKept.run_setObj_map _ hb, Result.andThen]; rfl, ⟨_, _, (heap_set hb).1, stamped_push hs h2, ?_⟩, hg _⟩
    have hno : k ∉ ks := fun h => by obtain ⟨x, hx, e⟩ := hmem.1 h; exact h2 x hx e
    unfold insK
    rw [if_neg hno, Array.toList_push, List.map_append, hkeys, List.map_append]
    rfl
  · have hj : es[j]? = some e := by simpa using h2
    have hkey : ∀ e', es[j]? = some e' → ({ e' with key := .int .i64 k, val := v } : MapEntry).key = e'.key := fun e' he' => by rw [hj] at he'; cases he'; exact h3.symm
    refine ⟨_, by simp [Instr.mapUpdate, run_underlying hm, MapKept.run_getObj_map hb, run_checkKey hd (hk k), run_findKey hd h1, hj, h3, run_keyThatStays (hk k), MapKept.run_setObj_map _ hb, Result.andThen], ⟨es.modify j fun e => { e with key := .int .i64 k, val := v }, clock, (heap_set hb).1, stamped_modify hs _ _ (fun _ _ => rfl) (fun e' _ he' => hkey e' he'), ?_⟩, hg _⟩
    have hyes : k ∈ ks := hmem.2 ⟨e, List.mem_of_getElem? h2, h3⟩
    unfold insK
    rw [if_pos hyes, modify_keys _ _ hkey, hkeys]
end Go.Proofs.Ytkhjdijdcjgpfaa

namespace Go.Proofs.Ytkhjdijdcjgpfaa
open Go.RowKit Go.Sort
set_option maxRecDepth 100000

/-- what is said of a world outlives new blocks and turns of blocks from B on -/
def AbN {β : Type} (B : Nat) (J : β → World → Prop) : Prop := ∀ s W W' row, J s W → W.grownBy W' row → (∀ r, row = some r → B ≤ r) → J s W'
/-- what a round leaves: all cells outside block cb -/
structure KpC (cb : Nat) (W W' : World) : Prop where
  size : W.heap.size ≤ W'.heap.size
  same : ∀ (i : Nat) (o : Obj), i ≠ cb → W.heap[i]? = some o → o.isCells = true → W'.heap[i]? = some o
theorem KpC.trans {cb : Nat} {A B C : World} (h : KpC cb A B) (k : KpC cb B C) : KpC cb A C := ⟨Nat.le_trans h.size k.size, fun i o hi ho hc => k.same i o hi (h.same i o hi ho hc) hc⟩
theorem KpC.of_grown {cb : Nat} {W W' : World} (h : W.grownBy W' (some cb)) : KpC cb W W' := ⟨h.size, fun i o hi ho _ => (h.block i (Array.getElem?_eq_some_iff.1 ho).1 (fun e => by injection e with e; exact hi e)).trans ho⟩
theorem KpC.of_put {cb : Nat} {W : World} {l : Nat} {o : Obj} (o' : Obj) (h : W.heap[l]? = some o) (ho : o.isCells = false) : KpC cb W (W.putObj l o') :=
  ⟨by simp, fun i p _ hp hc => (World.putObj_heap_other (fun e => by subst e; rw [h] at hp; injection hp with hp; subst hp; rw [ho] at hc; cases hc)).trans hp⟩
theorem KpC.block {cb : Nat} {W W' : World} (h : KpC cb W W') {p : Addr} {v : Value} (hp : p.block ≠ cb) (hv : W.cell? p = some v) : W'.heap[p.block]? = W.heap[p.block]? := by
  obtain ⟨o, ho, hc⟩ : ∃ o : Obj, W.heap[p.block]? = some o ∧ o.isCells = true := by
    unfold World.cell? at hv
    cases ho : W.heap[p.block]? with
    | none => simp [ho] at hv
    | some o => exact ⟨o, rfl, by cases o <;> simp_all [Obj.isCells]⟩
  rw [h.same _ _ hp ho hc, ho]
theorem KpC.cell {cb : Nat} {W W' : World} (h : KpC cb W W') {p : Addr} {v : Value} (hp : p.block ≠ cb) (hv : W.cell? p = some v) : W'.cell? p = some v :=
  (World.cell?_of_block (h.block hp hv)).trans hv
/-- the contract of an iterator that gives all, in this order, whatever the rounds do to block cb -/
def SeqAll {β : Type} (P : Program) (gf : Nat) (lb : Array Value) (cb : Nat) (En : World → β → Value → Prop) (all : List β) (w0 : World) : Prop :=
  ∀ (l : Nat) (J : List β → World → Prop) (W : World), Below w0.heap.size w0 W → AbN W.heap.size J →
    (∀ pre x v W1, J pre W1 → En W1 x v → x ∈ all → YieldAt Fence.wide 0 P l #[v] W1 fun e W' => e = .returned (.bool true) ∧ J (pre ++ [x]) W' ∧ KpC cb W1 W') →
    J [] W → Calls P gf (#[.func (.yield l) #[] #[]] ++ lb) W fun e W' => (∃ v, e = .returned v) ∧ J all W'
/-- how a round's body is left -/
def postA {β : Type} (cb : Nat) (I : List β → World → Prop) (xs : List β) (W : World) : Exit → Act → World → Prop
  | .normal, _, W' => W.grownBy W' (some cb) ∧ I xs W'
  | .ret, _, _ => False
  | .exit _, _, _ => False
  | .goto _, _, _ => False
  | .panic _, _, _ => False
  | .outgrown, _, _ => False
theorem AbN.putObj {β : Type} {B : Nat} {I : β → World → Prop} (h : AbN B I) {s : β} {W : World} {l : Nat} (o' : Obj) (hs : I s W) (hB : B ≤ l) : I s (W.putObj l o') :=
  h s W _ (some l) hs (grownBy_putObj' W l o') (fun r e => by cases e; exact hB)
theorem AbN.alloc {β : Type} {B : Nat} {I : β → World → Prop} (h : AbN B I) {s : β} {W : World} (o : Obj) (hs : I s W) : I s (W.alloc o) :=
  h s W _ none hs (World.grownBy_alloc W o none) (fun r e => by cases e)
theorem wp_rangeFunc_all {P : Program} {β : Type} {g : Operand} {ps : Array Tmp} {assign body : Code} {Q : Exit → Act → World → Prop} {a : Act} {w : World} {gf : Nat} {lb : Array Value} (hg : a.eval g = .func (.func gf) #[] lb) (eg : ∀ args w, (callFunc gf args).run P w = .ok (.enter gf args) w)
    {cb : Nat} {En : World → β → Value → Prop} {all : List β} {w0 : World} (hseq : SeqAll P gf lb cb En all w0) (hb0 : Below w0.heap.size w0 w) (hcb : cb < w.heap.size) (hps : ps.size = 1)
    (hEn : ∀ W l o o' x v, W.heap[l]? = some o → o.isCells = false → En W x v → En (W.putObj l o') x v)
    (I : List β → World → Prop) (hI : AbN w.heap.size I) (h0 : I [] w) (a₁ : Value → Act)
    (hassign : ∀ (l : Nat) (v : Value) (W : World) (K : Act → World → Prop), K (a₁ v) W →
      assign.wpIn (Fence.wide.inRound l) 0 P (Exit.then K (fun _ _ _ => False)) { tmps := (ps.zip #[v]).foldl (fun t (p, v) => t.setIfInBounds p v) a.tmps, defers := [] } W)
    (hbody : ∀ (l : Nat) (pre : List β) (x : β) (v : Value) (W : World), I pre W → En W x v → x ∈ all → w.heap.size ≤ W.heap.size → body.wpIn (Fence.wide.inRound l) 0 P (postA cb I (pre ++ [x]) W) (a₁ v) W)
    (hdone : ∀ (D : Nat) (W : World), w.heap.size ≤ D → I all W → W.heap[D]? = some (.deferred (some [])) → Q .normal { a with defers := { target := .collected D, args := #[] } :: a.defers } W) :
    (Code.rangeFunc g ps assign body).wp P Q a w := by
  refine (wpIn_wide (n := 1)).1 (wpIn_rangeFunc ?_)
  intro fn hfn
  rw [show Fence.wide.round = none from rfl]
  obtain ⟨rec, hrec⟩ : ∃ rec : LoopState → Option Code → Loop, rec = fun st pe => { state := st, pending := pe, fn, tmps := a.tmps, params := ps, assign, body, defers := w.heap.size } := ⟨_, rfl⟩
  obtain ⟨W1, hW1⟩ : ∃ W1, (w.alloc (.deferred (some []))).alloc (.loop (rec .ready none)) = W1 := ⟨_, rfl⟩
  have hsz1 : W1.heap.size = w.heap.size + 1 + 1 := by rw [← hW1]; simp
  have hL1 : W1.heap[w.heap.size + 1]? = some (.loop (rec .ready none)) := by
    rw [← hW1]
    have := World.alloc_heap_new (w.alloc (.deferred (some []))) (.loop (rec .ready none))
    rwa [World.size_alloc] at this
  have hK1 : W1.heap[w.heap.size]? = some (.deferred (some [])) := by
    rw [← hW1]; exact (Below.heap_alloc _ _ _ (by simp)).trans (World.alloc_heap_new w _)
  have hI1 : I [] W1 := by rw [← hW1]; exact hI.alloc _ (hI.alloc _ h0)
  have hb1 : Below w0.heap.size w0 W1 := by
    rw [← hW1]; exact hb0.trans ((((Below.refl _ w).alloc (Nat.le_refl _) _).alloc (by simp) _).mono hb0.size)
  refine ⟨w.heap.size + 1, [{ target := .collected w.heap.size, args := #[] }], W1, { target := .fn (.func gf) lb, args := #[.func (.yield (w.heap.size + 1)) #[] #[]] }, W1, gf,
    #[.func (.yield (w.heap.size + 1)) #[] #[]] ++ lb, W1, ?_, ?_, fun _ _ => trivial, ?_, (fun h => by cases h), callsIn_wide.2 ?_⟩
  · rw [← hW1, hrec]; exact run_enterLoop_outer _ _ _ _ _
  · simp only [resolve, hg]
    simp [go_sem]
  · simp [invoke, go_sem, eg]
  · refine (hseq (w.heap.size + 1)
      (fun pre W => I pre W ∧ W.heap[w.heap.size + 1]? = some (.loop (rec .ready none)) ∧ W.heap[w.heap.size]? = some (.deferred (some [])))
      W1 hb1 (fun s A B row hs hg' hr => ?_) ?_ ⟨hI1, hL1, hK1⟩).mono ?_
    · have k : ∀ (i : Nat) (o : Obj), i < W1.heap.size → A.heap[i]? = some o → B.heap[i]? = some o := fun i o hi ho =>
        (hg'.block i (Array.getElem?_eq_some_iff.1 ho).1 (fun e => by have := hr i e.symm; omega)).trans ho
      exact ⟨hI s A B row hs.1 hg' (fun r e => by have := hr r e; omega), k _ _ (by omega) hs.2.1, k _ _ (by omega) hs.2.2⟩
    · rintro pre x v W ⟨hi, hl, hk⟩ hen hmem
      have hlt : w.heap.size + 1 < W.heap.size := (Array.getElem?_eq_some_iff.1 hl).1
      have hy := run_yield (P := P) (args := #[v]) hl (by rw [hrec]; exact hps.symm)
      rw [hrec] at hy
      refine ⟨fn, _, assign, body, hy, roundIn_of_wpIn hfn (hassign _ v W _ ⟨_, run_beginRound hl (by rw [hrec]), ?_⟩)⟩
      have hl2 : (W.putObj (w.heap.size + 1) (.loop { rec .ready none with state := .busy })).heap[w.heap.size + 1]? = some (.loop { rec .ready none with state := .busy }) := World.putObj_heap_same hlt
      have hk2 : (W.putObj (w.heap.size + 1) (.loop { rec .ready none with state := .busy })).heap[w.heap.size]? = some (.deferred (some [])) := (World.putObj_heap_other (by omega)).trans hk
      refine wpIn_mono (hbody _ pre x v _ (hI.putObj _ hi (by omega)) (hEn _ _ _ _ _ _ hl rfl hen) hmem (by simp; omega)) ?_
      rintro e a3 W3 hp
      cases e with
      | normal =>
        obtain ⟨hg3, hi3⟩ := hp
        have hl3 : W3.heap[w.heap.size + 1]? = some (.loop { rec .ready none with state := .busy }) := (hg3.block _ (by simp; omega) (fun e => by injection e; omega)).trans hl2
        have hk3 : W3.heap[w.heap.size]? = some (.deferred (some [])) := (hg3.block _ (by simp; omega) (fun e => by injection e; omega)).trans hk2
        have hr := run_endRound (P := P) none hl3
        refine ⟨_, _, hr, rfl, ⟨hI.putObj _ hi3 (by omega), ?_, (World.putObj_heap_other (by omega)).trans hk3⟩, ?_⟩
        · rw [World.putObj_heap_same (Array.getElem?_eq_some_iff.1 hl3).1, hrec]; rfl
        · exact ((KpC.of_put _ hl rfl).trans (KpC.of_grown hg3)).trans (KpC.of_put _ hl3 rfl)
      | ret => exact hp.elim
      | exit id => exact hp.elim
      | goto t => exact hp.elim
      | panic ch => exact hp.elim
      | outgrown => exact hp.elim
    · rintro e W2 ⟨⟨v, rfl⟩, hi, hl, hk⟩
      exact ⟨none, _, by have := run_endLoop (P := P) hl (by rw [hrec]; simp); rw [hrec] at this; exact this, hdone _ _ (Nat.le_refl _) (hI.putObj _ hi (by omega)) ((World.putObj_heap_other (by omega)).trans hk)⟩

/-! a region of a round that draws: by what holds of it outside -/
theorem wpOpsIn_of {P : Program} {ops : Array Oper} {Q : Exit → Act → World → Prop} (l n : Nat) (hnd : ∀ (i : Nat) (o : Oper), ops[i]? = some o → ∀ c, o.op ≠ .defer c) (hQ : ¬ LetsOut Q) :
    ∀ (list : List Nat) (a : Act) (w : World), wpOps P ops Q list a w → wpOpsIn (Fence.wide.inRound l) n P ops Q list a w := by
  intro list
  induction list with
  | nil => intro a w h; exact h
  | cons i rest ih =>
    intro a w h
    simp only [wpOps] at h
    simp only [wpOpsIn]
    cases ho : ops[i]? with
    | none => simp only [ho] at h; exact ih _ _ h
    | some o =>
      simp only [ho] at h
      by_cases hw : Region.wanted o (yielded ops a.tmps) = true
      · rw [if_pos hw] at h
        show if Region.wanted o (yielded ops a.tmps) = true then _ else _
        rw [if_pos hw]
        rcases h with h | h
        · refine ⟨fun _ _ => trivial, ?_⟩
          rw [Oper.semAt_eq _ _ _ (hnd i o ho)]
          unfold Oper.wp Oper.upon at h
          unfold Oper.uponIn
          generalize (execOp a.eval o).run P w = r at *
          split at h
          · exact ih _ _ h
          · exact ih _ _ h
          · exact ih _ _ h
          · refine ⟨(fun h => by cases h), CallsIn.inRound l (callsIn_wide.2 (h.mono ?_))⟩
            intro e w' he
            cases e with
            | returned v => exact ih _ _ he
            | panicked chain => exact he
            | outgrown => exact he
          · refine ⟨(fun h => by cases h), fun c cs _ => ?_⟩
            obtain ⟨v, w'', hR, hs⟩ := h c cs
            exact ⟨v, w'', ih _ _ hR, stepsIn_wide.2 hs⟩
          · exact h
          · exact h.elim
        · exact absurd h.2 hQ
      · rw [if_neg hw] at h
        show if Region.wanted o (yielded ops a.tmps) = true then _ else _
        rw [if_neg hw]
        exact ⟨fun _ _ => trivial, ih _ _ h⟩
def noDefer (l : List Oper) : Bool := l.all fun o => match o.op with | .defer _ => false | _ => true
theorem noDefer_spec {l : List Oper} (h : noDefer l = true) : ∀ (i : Nat) (o : Oper), l.toArray[i]? = some o → ∀ c, o.op ≠ .defer c := by
  intro i o ho c e
  have hm : o ∈ l := by
    rw [List.getElem?_toArray] at ho
    exact List.mem_of_getElem? ho
  have := List.all_eq_true.1 h o hm
  rw [e] at this
  simp at this
theorem round_region {P : Program} {ops : Array Oper} {Q : Exit → Act → World → Prop} {id l n : Nat} {a : Act} {w : World} (hnd : ∀ (i : Nat) (o : Oper), ops[i]? = some o → ∀ c, o.op ≠ .defer c) (hQ : ¬ LetsOut Q) (hm : P.follows .mixedOrders = true)
    (h : wpAny P .any ops Q ops.size (Array.replicate ops.size false) a { w with drawn := w.drawn + 1 }) : (Code.region id ops true).wpIn (Fence.wide.inRound l) n P Q a w :=
  wpIn_region_draw fun t => by
    simp only [Region.schedule, hm, Bool.true_or, if_true]
    exact wpOpsIn_of l n hnd hQ _ _ _ (wpAny_sound ops.size t _ a _ h)
theorem round_region_below {P : Program} {Q : Exit → Act → World → Prop} {id l n : Nat} {a : Act} {w : World} {ol : List Oper} (hnd : ∀ (i : Nat) (o : Oper), ol.toArray[i]? = some o → ∀ c, o.op ≠ .defer c) (hQ : ¬ LetsOut Q) (hm : P.follows .mixedOrders = true) (hB : Region.lexB .any ol.toArray = true)
    (h : wpQuiet P ol.toArray (fun w' => ∃ p : Regrown, w' = grow (redrawn w p.d) p.os) (fun a' => ∀ w', Below w.heap.size w w' → Q .normal a' w') ol a) : (Code.region id ol.toArray true).wpIn (Fence.wide.inRound l) n P Q a w := by
  have hB' := hB
  simp only [Region.lexB, Bool.and_eq_true] at hB
  refine round_region hnd hQ hm (wpAny_of_quiet (C := fun w' => ∃ p : Regrown, w' = grow (redrawn w p.d) p.os) (Q := fun a' => ∀ w', (∃ p : Regrown, w' = grow (redrawn w p.d) p.os) → Q .normal a' w') (fun _ w' hw' h => h w' hw') _ _ _ _ ⟨⟨w.drawn + 1, #[]⟩, by rw [grow_empty]; rfl⟩ ?_)
  have e : (fun a' => ∀ w', (∃ p : Regrown, w' = grow (redrawn w p.d) p.os) → Q .normal a' w') = (fun a' => ∀ w', Below w.heap.size w w' → Q .normal a' w') := by
    funext a'
    exact propext ⟨fun h w' hb => h w' (regrown_of_below hb), fun h w' ⟨p, hp⟩ => by subst hp; exact h _ (below_regrown w p.d p.os)⟩
  rw [e]
  have := wpAnyQ_lex (C := fun w' => ∃ p : Regrown, w' = grow (redrawn w p.d) p.os) (md := .any) hB.1 ol.toArray.toList 0 (Array.replicate ol.toArray.size false) a (by simp) (by simpa using hB.2) (by simpa using h)
  simpa using this
theorem calls_of_wpM {P : Program} {f : FuncId} {fn : Func} {c : Code} {args : Array Value} {w : World} {R : Ending → World → Prop} (hf : P.funcs[f]? = some fn) (hb : fn.body = some c)
    (h : c.wp P (bodyPostM Fence.wide 3 P fn R) { tmps := args ++ Array.replicate (fn.ntmps - args.size) undef, defers := [] } w) : Calls P f args w R :=
  callsIn_wide.1 (callsIn_of_wp_marks (n := 3) hf hb trivial (wpIn_wide.2 h) rfl)
theorem rd_put {W : World} {l : Nat} {o o' : Obj} {v : Value} {xs : List Int} (h : W.heap[l]? = some o) (ho : o.isCells = false) (hr : Rd W v xs) : Rd (W.putObj l o') v xs := by
  obtain ⟨A, c, rfl, h1, h2, h3⟩ := hr
  refine ⟨A, c, rfl, h1, h2, fun h0 => ?_⟩
  obtain ⟨b, off, rfl, hb, hx⟩ := h3 h0
  exact ⟨b, off, rfl, by simp; exact hb, fun k hk => (KpC.of_put (cb := b + 1) o' h ho).cell (p := ⟨b, off + k, none⟩) (by show b ≠ b + 1; omega) (hx k hk)⟩
end Go.Proofs.Ytkhjdijdcjgpfaa

