/- Texts put together: Flip, FlipT, AllP, KgP, Mix2, Mix3. -/
import Derived.Test.YtajeledbmnndmaaMSafe02
import Derived.Test.YtajeledbmnndmaaMSafe01
import Derived.Deep.RegionHeld3
import Derived.Deep.RegionLawGrows
import Derived.Test.YtajeledbmnndmaaMSafe03
import Derived.Test.YtajeledbmnndmaaMSafe07
import Derived.Test.YtajeledbmnndmaaMSafe06
import Derived.Test.YtajeledbmnndmaaMSafe08
import Derived.Test.YtajeledbmnndmaaMSafe04
namespace Go.Proofs.Ytajeledbmnndmaa
open Go.RowKit Go.Sort
set_option maxRecDepth 100000

/-- one digit turned over -/
def xorI (x : Int) (b : Nat) : Int := bits BinOp.xor IntKind.i64 x (wrap64 (2 ^ b))
def flipL (xs : List Int) (a b : Nat) : List Int := (xs.set a (xorI (xs.getD a 0) b)).set b (xorI ((xs.set a (xorI (xs.getD a 0) b)).getD b 0) a)
theorem flipL_len (xs : List Int) (a b : Nat) : (flipL xs a b).length = xs.length := by simp [flipL]
set_option maxHeartbeats 2000000 in
theorem flipped_any (s : Int) (sl : Value) (xs : List Int) (a b : Nat) (w : World) (h : Rd w sl xs) (hl : xs.length ≤ 8) (ha : a < xs.length) (hb : b < xs.length) :
    Calls Try.prog 98 #[.agg #[.int .i64 s, sl], .int .i64 a, .int .i64 b] w fun e w' => ∃ sl', e = .returned (.agg #[.int .i64 s, sl']) ∧ Own w' w.heap.size sl' (flipL xs a b) ∧ Below w.heap.size w w' := by
  have HR := Lib.hid h
  obtain ⟨A, c, rfl, -, -, -⟩ := h
  go_enter Try.func98, Try.ntmps98
  go_wp2_with fail
  have b0 := (below_alloc1 w (.cells #[.int .i64 s, .slice A xs.length c] 28)).alloc (by simp) (.cells #[.int .i64 0, .slice none 0 0] 28)
  have x0 := (TBox.new w s (.slice A xs.length c) 28).below (below_alloc1 _ (.cells #[.int .i64 0, .slice none 0 0] 28))
  have t0 := BoxF.new (w.alloc (.cells #[.int .i64 s, .slice A xs.length c] 28)) 0 (.slice none 0 0) 28
  simp only [World.size_alloc] at t0
  generalize (w.alloc (.cells #[.int .i64 s, .slice A xs.length c] 28)).alloc (.cells #[.int .i64 0, .slice none 0 0] 28) = w0 at *
  have HX0 := Lib.hid x0
  have HB0 := Lib.hid b0
  have HT0 := Lib.hid t0
  clear x0 b0 t0
  have y0_0 := HX0.out.1
  have y1_0 := HX0.out.2
  have hg0 := HX0.out.1
  have hgt0 : w.heap.size + 1 < w0.heap.size := HT0.out.gt
  have HDX := Lib.hid (show TBox w0.drew w.heap.size s (.slice A xs.length c) from HX0.out)
  have HDT := Lib.hid (show BoxF w0.drew (w.heap.size + 1) 0 (.slice none 0 0) from HT0.out)
  have HDB := Lib.hid (show Below w.heap.size w w0.drew from ⟨HB0.out.os, HB0.out.tape, HB0.out.output, HB0.out.size, HB0.out.block⟩)
  have bA := below_alloc1 w0 (.cells #[.int .i64 0, .slice none 0 0] 28)
  have hXA := HX0.out.below bA
  have hTA := HT0.out.below bA
  have HAX := Lib.hid (show TBox (w0.alloc (.cells #[.int .i64 0, .slice none 0 0] 28)).drew w.heap.size s (.slice A xs.length c) from hXA)
  have HAT := Lib.hid (show BoxF (w0.alloc (.cells #[.int .i64 0, .slice none 0 0] 28)).drew (w.heap.size + 1) 0 (.slice none 0 0) from hTA)
  have HAU := Lib.hid (show BoxF (w0.alloc (.cells #[.int .i64 0, .slice none 0 0] 28)).drew w0.heap.size 0 (.slice none 0 0) from BoxF.new w0 0 (.slice none 0 0) 28)
  have HAB := Lib.hid (show Below w.heap.size w (w0.alloc (.cells #[.int .i64 0, .slice none 0 0] 28)).drew from (let q := Below.then HB0.out bA; ⟨q.os, q.tape, q.output, q.size, q.block⟩))
  have ya0 := hXA.1
  have ya1 := hXA.2
  clear bA hXA hTA hg0
  go_region_held3 (fun W => W.cell? ⟨w.heap.size, 0, none⟩ = some (.int .i64 s) ∧ W.cell? ⟨w.heap.size, 1, none⟩ = some (.slice A xs.length c))
    (first | exact ⟨y0_0, y1_0⟩ | exact ⟨ya0, ya1⟩ | exact ⟨y0_1, y1_1⟩ | exact ⟨yb0, yb1⟩ | exact ⟨yc0, yc1⟩)
    (first
      | (go_at_call 109; refine (clone_any (.slice A xs.length c) xs w0.drew (HR.out.below HDB.out) (by omega) (by omega)).mono ?_; rintro e w1 ⟨v1, rfl, ho1, hb1⟩; obtain ⟨Y, cy, rfl, hcy, hly, hgy⟩ := ho1.form; have HX1 := Lib.hid (HDX.out.below hb1); have HT1 := Lib.hid (HDT.out.below hb1); have HB1 := Lib.hid (Below.then HDB.out hb1); have y0_1 := HX1.out.1; have y1_1 := HX1.out.2; have HO1 := Lib.hid (show Own w1 w0.heap.size _ _ from ho1); have hXb := HX1.out.below (below_alloc1 w1 (.cells #[.int .i64 0, .slice none 0 0] 28)); have yb0 := hXb.1; have yb1 := hXb.2; have hXc := HX1.out.below (below_alloc1 w1 (.cells #[.int .i64 s, .slice Y xs.length cy] 28)); have yc0 := hXc.1; have yc1 := hXc.2; have WAY : Hid (0 = 0) := rfl; have hs1 := hb1.size; clear hXb hXc ho1 hb1)
      | (go_at_call 109; refine (clone_any (.slice A xs.length c) xs (w0.alloc (.cells #[.int .i64 0, .slice none 0 0] 28)).drew (HR.out.below HAB.out) (by omega) (by omega)).mono ?_; rintro e w1 ⟨v1, rfl, ho1, hb1⟩; obtain ⟨Y, cy, rfl, hcy, hly, hgy⟩ := ho1.form; have HX1 := Lib.hid (HAX.out.below hb1); have HT1 := Lib.hid (HAT.out.below hb1); have HU1 := Lib.hid (HAU.out.below hb1); have HB1 := Lib.hid (Below.then HAB.out hb1); have y0_1 := HX1.out.1; have y1_1 := HX1.out.2; have u0 := HU1.out.1.1; have u1 := HU1.out.1.2; have uf0 := HU1.out.2 0; have uf1 := HU1.out.2 1; have HO1 := Lib.hid (show Own w1 (w0.alloc (.cells #[.int .i64 0, .slice none 0 0] 28)).heap.size _ _ from ho1); have hs1 := hb1.size; have hXc := (HX1.out.kept (setCell_grown _ ⟨w0.heap.size, 0, none⟩ (.int .i64 s)) (by simp; omega)).kept (setCell_grown _ ⟨w0.heap.size, 1, none⟩ (.slice Y xs.length cy)) (by simp; omega); have yc0 := hXc.1; have yc1 := hXc.2; clear hXc ho1 hb1))
  all_goals
    obtain ⟨gy, rfl, hgy1, hgy2⟩ := hgy (by omega)
    clear y0_0 y1_0 y0_1 y1_1 yc0 yc1 ya0 ya1
    first
      | (clear yb0 yb1
         have hs2 : w0.heap.size ≤ w1.heap.size := hs1
         have hs3 : w0.heap.size ≤ gy := hgy1
         have HU := Lib.hid (BoxF.new w1 s (.slice (some ⟨gy, 0, none⟩) xs.length cy) 28)
         have b2 := below_alloc1 w1 (.cells #[.int .i64 s, .slice (some ⟨gy, 0, none⟩) xs.length cy] 28)
         have HT := Lib.hid (HT1.out.below b2)
         have HO := Lib.hid (HO1.out.below b2)
         have HB := Lib.hid (Below.then HB1.out b2)
         have hgu : w.heap.size + 1 < w1.heap.size ∧ w1.heap.size ≠ gy := by omega
         clear b2 HO1 HT1 HB1 HX1
         generalize w1.alloc (.cells #[.int .i64 s, .slice (some ⟨gy, 0, none⟩) xs.length cy] 28) = W at *
         generalize w1.heap.size = gu at *)
      | (have hs2 : w0.heap.size + 1 ≤ gy := by simpa using hgy1
         have HU := Lib.hid (HU1.out.set01 s (.slice (some ⟨gy, 0, none⟩) xs.length cy))
         have HT := Lib.hid ((HT1.out.kept (setCell_grown _ ⟨w0.heap.size, 0, none⟩ (.int .i64 s)) (by simp; omega)).kept (setCell_grown _ ⟨w0.heap.size, 1, none⟩ (.slice (some ⟨gy, 0, none⟩) xs.length cy)) (by simp; omega))
         have HO := Lib.hid (((HO1.out.mono (show w0.heap.size ≤ _ by simp)).kept (setCell_grown _ ⟨w0.heap.size, 0, none⟩ (.int .i64 s)) (by right; simp [Value.ownBlock]; omega)).kept (setCell_grown _ ⟨w0.heap.size, 1, none⟩ (.slice (some ⟨gy, 0, none⟩) xs.length cy)) (by right; simp [Value.ownBlock]; omega))
         have HB := Lib.hid ((HB1.out.setCell (p := ⟨w0.heap.size, 0, none⟩) (show w.heap.size ≤ w0.heap.size by omega) (.int .i64 s)).setCell (p := ⟨w0.heap.size, 1, none⟩) (show w.heap.size ≤ w0.heap.size by omega) (.slice (some ⟨gy, 0, none⟩) xs.length cy))
         have hgu : w.heap.size + 1 < w0.heap.size ∧ w0.heap.size ≠ gy := by omega
         clear u0 u1 uf0 uf1 HO1 HT1 HB1 HX1 HU1
         generalize ((w1.setCell ⟨w0.heap.size, 0, none⟩ (.int .i64 s)).setCell ⟨w0.heap.size, 1, none⟩ (.slice (some ⟨gy, 0, none⟩) xs.length cy)) = W at *
         obtain ⟨gu, hgue⟩ : ∃ gu, gu = w0.heap.size := ⟨_, rfl⟩
         rw [← hgue] at HU hgu ⊢
         clear hgue)
    have hgy3 : w.heap.size + 1 < gy := by omega
    clear hgy1 hgy2
    have za := (HO.out.at1 rfl (by omega)).1 a ha
    obtain ⟨x, hx⟩ : ∃ x, x = xs.getD a 0 := ⟨_, rfl⟩
    obtain ⟨x1, hx1⟩ : ∃ x1, x1 = bits BinOp.xor IntKind.i64 x (wrap64 (2 ^ b)) := ⟨_, rfl⟩
    have HE1 : Hid (x1 = xorI (xs.getD a 0) b) := by unfold Hid xorI; rw [hx1, hx]
    rw [← hx] at za
    have hxor := hx1.symm
    have c1 := cell_regrown HU.out.1.2
    have c2 := cell_regrown za
    clear za hx1 hx
    go_wp2_with fail
    refine wp_region_below_tail 9 (by kernel_rfl) (by kernel_rfl) ?_
    simp only [List.take_succ_cons, List.take_zero, List.drop_succ_cons, List.drop_zero]
    repeat (go_big_quiet_step (first | (with_reducible fail)))
    refine wpQuiet_nil ?_
    intro wq hbq0
    have hbq := Lib.hid hbq0
    clear hbq0
    clear c1 c2 hxor
    have O2 := HO.out.below hbq.out
    obtain ⟨hx2, hf2⟩ := O2.at1 rfl (by omega)
    have za := hx2 a ha
    have fa := hf2 a
    have O3 := (O2.set_ rfl a x1).1
    have HU3 := Lib.hid ((HU.out.below hbq.out).kept (setCell_grown _ ⟨gy, a, none⟩ (.int .i64 x1)) (by simp; omega))
    have HT3 := Lib.hid ((HT.out.below hbq.out).kept (setCell_grown _ ⟨gy, a, none⟩ (.int .i64 x1)) (by simp; omega))
    have HB3 := Lib.hid ((Below.then HB.out hbq.out).setCell (p := ⟨gy, a, none⟩) (show w.heap.size ≤ gy by omega) (.int .i64 x1))
    have HO3 := Lib.hid O3
    have hl1 : (xs.set a x1).length = xs.length := by simp
    clear hx2 hf2 O2 O3 HO HU HT HB
    generalize hL : xs.set a x1 = L at *
    have HL := Lib.hid hL
    clear hL
    generalize hn : xs.length = n at *
    have HN := Lib.hid hn
    go_wp2_with fail
    clear za fa
    have zb := (HO3.out.at1 hl1 (by omega)).1 b hb
    obtain ⟨y, hy⟩ : ∃ y, y = L.getD b 0 := ⟨_, rfl⟩
    obtain ⟨y1, hy1⟩ : ∃ y1, y1 = bits BinOp.xor IntKind.i64 y (wrap64 (2 ^ a)) := ⟨_, rfl⟩
    have HE2 : Hid (y1 = xorI (L.getD b 0) a) := by unfold Hid xorI; rw [hy1, hy]
    rw [← hy] at zb
    have hxor := hy1.symm
    have c1 := cell_regrown HU3.out.1.2
    have c2 := cell_regrown zb
    clear zb hy1 hy
    refine wp_region_below_tail 9 (by kernel_rfl) (by kernel_rfl) ?_
    simp only [List.take_succ_cons, List.take_zero, List.drop_succ_cons, List.drop_zero]
    repeat (go_big_quiet_step (first | (with_reducible fail)))
    refine wpQuiet_nil ?_
    intro wq hbq0
    have hbq := Lib.hid hbq0
    clear hbq0
    clear c1 c2 hxor
    have O2 := HO3.out.below hbq.out
    obtain ⟨hx2, hf2⟩ := O2.at1 hl1 (by omega)
    have zb := hx2 b hb
    have fb := hf2 b
    have O5 := (O2.set_ hl1 b y1).1
    have hl5 : (L.set b y1).length = n := by simp [hl1]
    have HE : Hid (L.set b y1 = flipL xs a b) := by unfold Hid flipL; rw [← HE1.out, HL.out, ← HE2.out]
    have HU5 := (HU3.out.below hbq.out).kept (setCell_grown _ ⟨gy, b, none⟩ (.int .i64 y1)) (by simp; omega)
    have HT5 := (HT3.out.below hbq.out).kept (setCell_grown _ ⟨gy, b, none⟩ (.int .i64 y1)) (by simp; omega)
    have HB5 := Lib.hid ((Below.then HB3.out hbq.out).setCell (p := ⟨gy, b, none⟩) (show w.heap.size ≤ gy by omega) (.int .i64 y1))
    have HO5 := Lib.hid O5
    have HU3q := HU3.out.below hbq.out
    have HT3q := HT3.out.below hbq.out
    clear hx2 hf2 O2 O5 HO3 HU3 HT3 HB3 hbq
    have HTq := HT3q
    have u0 := HU3q.1.1
    have u1 := HU3q.1.2
    have v0 := HT3q.1.1
    have v1 := HT3q.1.2
    have f0 := HT3q.2 0
    have f1 := HT3q.2 1
    have V0 := Lib.hid HT5.1.1
    have V1 := Lib.hid HT5.1.2
    have hgu2 := hgu.2
    have hgu3 : gy ≠ gu := fun e => hgu2 e.symm
    have hgu4 : gy ≠ w.heap.size + 1 := by omega
    clear HTq HU5 HT5
    have HOx := Lib.hid ((HO5.out.kept (setCell_grown _ ⟨w.heap.size + 1, 0, none⟩ (.int .i64 s)) (by right; simp [Value.ownBlock]; omega)).kept (setCell_grown _ ⟨w.heap.size + 1, 1, none⟩ (.slice (some ⟨gy, 0, none⟩) n cy)) (by right; simp [Value.ownBlock]; omega))
    have HBx := Lib.hid ((HB5.out.setCell (p := ⟨w.heap.size + 1, 0, none⟩) (by simp) (.int .i64 s)).setCell (p := ⟨w.heap.size + 1, 1, none⟩) (by simp) (.slice (some ⟨gy, 0, none⟩) n cy))
    have R0 : Hid ((((wq.setCell ⟨gy, b, none⟩ (.int .i64 y1)).setCell ⟨w.heap.size + 1, 0, none⟩ (.int .i64 s)).setCell ⟨w.heap.size + 1, 1, none⟩ (.slice (some ⟨gy, 0, none⟩) n cy)).cell? ⟨w.heap.size + 1, 0, none⟩ = some (.int .i64 s)) := (World.cell?_setCell_other _ _ _ _ (by simp)).trans (World.cell?_setCell_same _ _ _ V0.out)
    have R1 : Hid ((((wq.setCell ⟨gy, b, none⟩ (.int .i64 y1)).setCell ⟨w.heap.size + 1, 0, none⟩ (.int .i64 s)).setCell ⟨w.heap.size + 1, 1, none⟩ (.slice (some ⟨gy, 0, none⟩) n cy)).cell? ⟨w.heap.size + 1, 1, none⟩ = some (.slice (some ⟨gy, 0, none⟩) n cy)) := World.cell?_setCell_same _ _ _ ((World.cell?_setCell_other _ _ _ _ (by simp)).trans V1.out)
    clear HU3q HT3q
    go_wp2
    have r0 := R0.out
    have r1 := R1.out
    refine bodyPost_ret (v := .agg #[.int .i64 s, .slice (some ⟨gy, 0, none⟩) n cy]) (by simp only [results, Try.results98]; simp [go_sem, r0, r1]) rfl ⟨_, rfl, ?_, HBx.out⟩
    rw [← HE.out]
    exact HOx.out.mono (by omega)
end Go.Proofs.Ytajeledbmnndmaa

namespace Go.Proofs.Ytajeledbmnndmaa
open Go.RowKit Go.Sort
set_option maxRecDepth 100000
theorem xor_nat {S b : Nat} (hS : S < 256) (hb : b < 8) : xorI (S : Int) b = ((S ^^^ 2 ^ b : Nat) : Int) := by
  unfold xorI
  rw [shl_nat b (by omega)]
  have : 2 ^ b < 256 := pow_lt8 hb
  exact i64_xor_nat S (2 ^ b) (by omega) (by omega)
theorem flip_at {s : Int} {xs : List Int} (hp : tourP s xs) {a b : Nat} (ha : a < xs.length) (hb : b < xs.length) (hab : a ≠ b) (x : Nat) (hx : x < xs.length) :
    ∃ S : Nat, (flipL xs a b).getD x 0 = (S : Int) ∧ S < 2 ^ xs.length ∧ ∀ y, S.testBit y = ((bt xs x y) ^^ ((x == a && y == b) || (x == b && y == a))) := by
  have h8 : xs.length ≤ 8 := by have h1 := hp.1; have h2 := hp.2.1; omega
  have hw := fun z (hz : z < xs.length) => tour_wins hp hz
  have hsn : s.toNat = xs.length := by have := hp.2.1; omega
  have pw : ∀ c, c < xs.length → 2 ^ c < 2 ^ xs.length := fun c hc => Nat.pow_lt_pow_right (by decide) hc
  have e1 : (xs.set a (xorI (xs.getD a 0) b)).getD b 0 = xs.getD b 0 := getD_set_other _ hab
  unfold flipL
  rw [e1]
  have wa := hw a ha
  have wb := hw b hb
  rw [hsn] at wa wb
  by_cases h1 : x = b
  · subst h1
    rw [getD_set_same _ (by simp [hx]), wb.1, xor_nat wb.2.2 (by omega)]
    refine ⟨_, rfl, Nat.xor_lt_two_pow wb.2.1 (pw a ha), fun y => ?_⟩
    rw [Nat.testBit_xor, Nat.testBit_two_pow]
    have q : (x == a) = false := by simp; omega
    by_cases e : a = y
    · subst e; simp [q, bt]
    · have : (y == a) = false := by simp; omega
      simp [q, bt, e, this]
  · rw [getD_set_other _ (Ne.symm h1)]
    by_cases h2 : x = a
    · subst h2
      rw [getD_set_same _ hx, wa.1, xor_nat wa.2.2 (by omega)]
      refine ⟨_, rfl, Nat.xor_lt_two_pow wa.2.1 (pw b hb), fun y => ?_⟩
      rw [Nat.testBit_xor, Nat.testBit_two_pow]
      have q : (x == b) = false := by simp; omega
      by_cases e : b = y
      · subst e; simp [q, bt]
      · have : (y == b) = false := by simp; omega
        simp [q, bt, e, this]
    · rw [getD_set_other _ (Ne.symm h2)]
      have wx := hw x hx
      rw [hsn] at wx
      refine ⟨_, wx.1, wx.2.1, fun y => ?_⟩
      have q1 : (x == a) = false := by simp; omega
      have q2 : (x == b) = false := by simp; omega
      simp [q1, q2, bt]
theorem flip_tour {s : Int} {xs : List Int} (hp : tourP s xs) {a b : Nat} (ha : a < xs.length) (hb : b < xs.length) (hab : a ≠ b) : tourP s (flipL xs a b) := by
  have hl := flipL_len xs a b
  have ht := tour_bits hp
  have hbt : ∀ x y, x < xs.length → bt (flipL xs a b) x y = ((bt xs x y) ^^ ((x == a && y == b) || (x == b && y == a))) := fun x y hx => by
    obtain ⟨S, e, -, h⟩ := flip_at hp ha hb hab x hx
    show (winsN (flipL xs a b) x).testBit y = _
    unfold winsN
    rw [e, Int.toNat_natCast]
    exact h y
  refine tour_of_bits hp.1 (by rw [hl]; exact hp.2.1) (fun i hi => ?_) (fun x hx => ?_) (fun x y hx hy hxy => ?_)
  · rw [hl] at hi ⊢
    obtain ⟨S, e, h, -⟩ := flip_at hp ha hb hab i hi
    exact ⟨S, e, h⟩
  · rw [hl] at hx
    rw [hbt x x hx, ht.2.1 x hx]
    have q : ((x == a && x == b) || (x == b && x == a)) = false := by
      rcases e : ((x == a && x == b) || (x == b && x == a)) with _ | _
      · rfl
      · simp at e; omega
    rw [q]; rfl
  · rw [hl] at hx hy
    rw [hbt x y hx, hbt y x hy, ht.2.2 x y hx hy hxy]
    have q : ((y == a && x == b) || (y == b && x == a)) = ((x == a && y == b) || (x == b && y == a)) := by
      rw [Bool.or_comm, Bool.and_comm (y == b), Bool.and_comm (y == a)]
    rw [q]
    cases bt xs y x <;> cases ((x == a && y == b) || (x == b && y == a)) <;> rfl
end Go.Proofs.Ytajeledbmnndmaa

namespace Go.Proofs.Ytajeledbmnndmaa
open Go.RowKit Go.Sort
set_option maxRecDepth 100000
/-- one pair: the lowest digit turns its result -/
def alStep (s : Nat × List Int) (a b : Nat) : Nat × List Int := (s.1 / 2, if s.1 % 2 = 1 then flipL s.2 a b else s.2)
def alIn (a : Nat) : Nat → Nat → Nat × List Int → Nat × List Int
  | 0, _, s => s
  | m + 1, b, s => alIn a m (b + 1) (alStep s a b)
def alOut (n : Nat) : Nat → Nat → Nat × List Int → Nat × List Int
  | 0, _, s => s
  | m + 1, a, s => alOut n m (a + 1) (alIn a (n - (a + 1)) (a + 1) s)
def al0 (n : Nat) : List Int := toL (fun a b => decide (b < a)) n
def allL (n code : Nat) : List Int := (alOut n n 0 (code, al0 n)).2
theorem al0_tour {n : Nat} (h1 : 1 ≤ n) (h8 : n ≤ 8) : tourP n (al0 n) := by
  have hl : (al0 n).length = n := toL_len _ _
  have hg : ∀ i, i < n → (al0 n).getD i 0 = ((setOf (toQ (fun a b => decide (b < a)) i) n : Nat) : Int) := fun i hi => by unfold al0 toL; simp [hi]
  have hb : ∀ a b, a < n → b < n → bt (al0 n) a b = (!(a == b) && decide (b < a)) := fun a b ha hb => by
    unfold bt winsN
    rw [hg a ha, Int.toNat_natCast, testBit_setOf]
    simp [hb, toQ]
  refine tour_of_bits ⟨by omega, by omega⟩ (by omega) (fun i hi => ?_) (fun a ha => ?_) (fun a b ha hb' hab => ?_)
  · rw [hl] at hi ⊢
    exact ⟨_, hg i hi, setOf_lt _ _⟩
  · rw [hl] at ha
    rw [hb a a ha ha]; simp
  · rw [hl] at ha hb'
    rw [hb a b ha hb', hb b a hb' ha]
    rcases Nat.lt_or_gt_of_ne hab with h | h
    · simp [show ¬ b < a by omega, h, show ¬ b = a by omega]
    · simp [show ¬ a < b by omega, h, show ¬ a = b by omega]
theorem alStep_tour {n : Nat} {s : Nat × List Int} {a b : Nat} (hp : tourP n s.2) (ha : a < n) (hb : b < n) (hab : a ≠ b) : tourP n (alStep s a b).2 := by
  unfold alStep
  have hl : s.2.length = n := by have := hp.2.1; omega
  dsimp only
  split
  · exact flip_tour hp (by omega) (by omega) hab
  · exact hp
theorem alIn_tour {n a : Nat} (ha : a < n) : ∀ (m b : Nat) (s : Nat × List Int), b + m ≤ n → a < b → tourP n s.2 → tourP n (alIn a m b s).2 := by
  intro m
  induction m with
  | zero => intro b s _ _ h; exact h
  | succ m ih => intro b s hb hab h; exact ih (b + 1) _ (by omega) (by omega) (alStep_tour h ha (by omega) (by omega))
theorem alOut_tour {n : Nat} : ∀ (m a : Nat) (s : Nat × List Int), a + m ≤ n → tourP n s.2 → tourP n (alOut n m a s).2 := by
  intro m
  induction m with
  | zero => intro a s _ h; exact h
  | succ m ih => intro a s ha h; exact ih (a + 1) _ (by omega) (alIn_tour (by omega) _ _ _ (by omega) (by omega) h)
theorem all_tour {n : Nat} (h1 : 1 ≤ n) (h8 : n ≤ 8) (code : Nat) : tourP n (allL n code) := alOut_tour n 0 _ (by omega) (al0_tour h1 h8)
end Go.Proofs.Ytajeledbmnndmaa

namespace Go.Proofs.Ytajeledbmnndmaa
open Go.RowKit Go.Sort
set_option maxRecDepth 100000
section
variable {n : Nat} {xs : List Int}
theorem dom_iff (hp : tourP n xs) {S : Nat} (hS : S < 2 ^ n) : domN xs S = true ↔ ∀ c, c < n → S.testBit c = true ∨ ∃ b, b < n ∧ S.testBit b = true ∧ bt xs b c = true := by
  have hln := tour_len hp
  have h8 : n ≤ 8 := by have := hp.1; omega
  have hM : ∀ b ∈ memN S 8, b < n := fun b hb => bit_lt hS (mem_memN.1 hb).2
  unfold domN
  rw [hln, beq_iff_eq]
  have key : ∀ c, (orK xs (memN S 8) S).testBit c = true ↔ S.testBit c = true ∨ ∃ b, b < n ∧ S.testBit b = true ∧ bt xs b c = true := fun c => by
    rw [testBit_orK, Bool.or_eq_true, List.any_eq_true]
    constructor
    · rintro (h | ⟨b, hb, h⟩)
      · exact .inl h
      · exact .inr ⟨b, hM b hb, (mem_memN.1 hb).2, h⟩
    · rintro (h | ⟨b, hb, h1, h2⟩)
      · exact .inl h
      · exact .inr ⟨b, mem_memN.2 ⟨by omega, h1⟩, h2⟩
  constructor
  · intro h c hc
    refine (key c).1 ?_
    rw [h, testBit_full]
    simpa using hc
  · intro h
    refine Nat.eq_of_testBit_eq fun c => ?_
    rw [testBit_full, Bool.eq_iff_iff, decide_eq_true_eq]
    constructor
    · intro hc
      rcases (key c).1 hc with h1 | ⟨b, hb, -, h2⟩
      · exact bit_lt hS h1
      · exact bt_hi hp hb h2
    · intro hc; exact (key c).2 (h c hc)
theorem full_lt (n : Nat) : 2 ^ n - 1 < 2 ^ n := by have := Nat.one_le_two_pow (n := n); omega
theorem dom_full (hp : tourP n xs) : domN xs (2 ^ n - 1) = true := (dom_iff hp (full_lt n)).2 fun c hc => .inl (by rw [testBit_full]; simpa using hc)
theorem ld_facts (hp : tourP n xs) : ∀ k, k < 2 ^ n → 1 ≤ ldK xs n k ∧ domN xs (ldK xs n k) = true ∧ ∀ S, 1 ≤ S → S ≤ k → domN xs S = true → popN 8 (ldK xs n k) ≤ popN 8 S := by
  have hn : 1 ≤ n := by have := hp.1; omega
  intro k
  induction k with
  | zero =>
    intro _
    refine ⟨?_, dom_full hp, fun S h1 h2 => by omega⟩
    have := Nat.pow_le_pow_right (n := 2) (by decide) hn
    show 1 ≤ 2 ^ n - 1
    omega
  | succ k ih =>
    intro hk
    obtain ⟨h1, h2, h3⟩ := ih (by omega)
    show 1 ≤ ldStep xs (ldK xs n k) (k + 1) ∧ domN xs (ldStep xs (ldK xs n k) (k + 1)) = true ∧ ∀ S, 1 ≤ S → S ≤ k + 1 → domN xs S = true → popN 8 (ldStep xs (ldK xs n k) (k + 1)) ≤ popN 8 S
    unfold ldStep
    by_cases hc : popN 8 (k + 1) < popN 8 (ldK xs n k) ∧ domN xs (k + 1) = true
    · rw [if_pos hc]
      refine ⟨by omega, hc.2, fun S hS1 hS2 hd => ?_⟩
      by_cases e : S = k + 1
      · subst e; exact Nat.le_refl _
      · have := h3 S hS1 (by omega) hd; omega
    · rw [if_neg hc]
      refine ⟨h1, h2, fun S hS1 hS2 hd => ?_⟩
      by_cases e : S = k + 1
      · subst e
        refine Nat.le_of_not_lt fun h => hc ⟨h, hd⟩
      · exact h3 S hS1 (by omega) hd
def ldN (xs : List Int) (n : Nat) : Nat := ldK xs n (2 ^ n - 1)
theorem ld_lt (xs : List Int) (n : Nat) : ldN xs n < 2 ^ n := ldK_lt xs n _ (full_lt n)
theorem ld_dom (hp : tourP n xs) : 1 ≤ ldN xs n ∧ domN xs (ldN xs n) = true := ⟨(ld_facts hp _ (full_lt n)).1, (ld_facts hp _ (full_lt n)).2.1⟩
theorem ld_min (hp : tourP n xs) {S : Nat} (h1 : 1 ≤ S) (hS : S < 2 ^ n) (hd : domN xs S = true) : popN 8 (ldN xs n) ≤ popN 8 S := (ld_facts hp _ (full_lt n)).2.2 S h1 (by omega) hd
theorem n256 (hp : tourP n xs) {S : Nat} (hS : S < 2 ^ n) : S < 256 := Nat.lt_of_lt_of_le hS (Nat.pow_le_pow_right (n := 2) (j := 8) (by decide) (by have := hp.1; omega))
theorem pop_pos {S c : Nat} (hS : S < 256) (h : S.testBit c = true) : 1 ≤ popN 8 S := by
  rw [pop_mem hS]
  exact List.length_pos_of_mem (mem_memN.2 ⟨bit_lt (n := 8) hS h, h⟩)
theorem pop_one {S : Nat} (hS : S < 256) (h : popN 8 S = 1) : ∃ a, S = 2 ^ a := by
  rw [pop_mem hS, List.length_eq_one_iff] at h
  obtain ⟨a, ha⟩ := h
  refine ⟨a, Nat.eq_of_testBit_eq fun j => ?_⟩
  rw [Nat.testBit_two_pow, Bool.eq_iff_iff, decide_eq_true_eq]
  constructor
  · intro hj
    have : j ∈ memN S 8 := mem_memN.2 ⟨bit_lt (n := 8) hS hj, hj⟩
    rw [ha] at this
    exact (List.mem_singleton.1 this).symm
  · rintro rfl
    exact (mem_memN.1 (show a ∈ memN S 8 by rw [ha]; simp)).2
/-- a least dominating set is one player if there is a sovereign -/
theorem ld_one (hp : tourP n xs) : popN 8 (ldN xs n) = 1 ↔ ∃ a, svP xs n a := by
  have h8 : n ≤ 8 := by have := hp.1; omega
  have hl := n256 hp (ld_lt xs n)
  constructor
  · intro h
    obtain ⟨a, ha⟩ := pop_one hl h
    have hd := (ld_dom hp).2
    have hlt := ld_lt xs n
    rw [ha] at hd hlt
    have han : a < n := (Nat.pow_lt_pow_iff_right (by decide)).1 hlt
    refine ⟨a, han, fun b hb => ?_⟩
    by_cases hba : b = a
    · subst hba; exact (tr_bit hp hb hb).1 rfl
    · rcases (dom_iff hp hlt).1 hd b hb with h1 | ⟨c, hc, h1, h2⟩
      · rw [Nat.testBit_two_pow, decide_eq_true_eq] at h1; exact absurd h1.symm hba
      · rw [Nat.testBit_two_pow, decide_eq_true_eq] at h1
        subst h1
        exact (bt_asym hp han hb h2).1
  · rintro ⟨a, ha, hs⟩
    have h1 : 2 ^ a < 2 ^ n := Nat.pow_lt_pow_right (by decide) ha
    have hd : domN xs (2 ^ a) = true := (dom_iff hp h1).2 fun c hc => by
      by_cases e : c = a
      · subst e; exact .inl (by rw [Nat.testBit_two_pow]; simp)
      · exact .inr ⟨a, ha, by rw [Nat.testBit_two_pow]; simp, (bt_flip hp ha hc (Ne.symm e)).2 (hs c hc)⟩
    have h2 := ld_min hp (Nat.one_le_two_pow) h1 hd
    rw [pop_pow (by omega)] at h2
    obtain ⟨c, hc⟩ := Nat.exists_testBit_of_ne_zero (show ldN xs n ≠ 0 by have := (ld_dom hp).1; omega)
    have := pop_pos hl hc
    omega
/-- nobody is left out of a least dominating set -/
theorem ld_less (hp : tourP n xs) {a : Nat} (ha : (ldN xs n).testBit a = true) (h2 : 1 < popN 8 (ldN xs n)) :
    ldN xs n - 2 ^ a = less (ldN xs n) (2 ^ a) ∧ 1 ≤ less (ldN xs n) (2 ^ a) ∧ less (ldN xs n) (2 ^ a) < 2 ^ n ∧ domN xs (less (ldN xs n) (2 ^ a)) = false := by
  have hl := n256 hp (ld_lt xs n)
  have ha8 : a < 8 := bit_lt (n := 8) hl ha
  have hlt : less (ldN xs n) (2 ^ a) < 2 ^ n := less_lt (ld_lt xs n)
  have hsub : ldN xs n - 2 ^ a = less (ldN xs n) (2 ^ a) := sub_less (by omega) (by omega) ha
  have hcard : cardN (less (ldN xs n) (2 ^ a)) 8 + cardN (2 ^ a) 8 = cardN (ldN xs n) 8 := card_split (fun c hc => by
    rw [Nat.testBit_two_pow, decide_eq_true_eq] at hc; subst hc; exact ha) 8
  have e1 : cardN (2 ^ a) 8 = 1 := by
    show (memN (2 ^ a) 8).length = 1
    rw [← pop_mem (Nat.pow_lt_pow_right (n := 8) (by decide) ha8), pop_pow ha8]
  have e2 : cardN (ldN xs n) 8 = popN 8 (ldN xs n) := (pop_mem hl).symm
  have e3 : cardN (less (ldN xs n) (2 ^ a)) 8 = popN 8 (less (ldN xs n) (2 ^ a)) := (pop_mem (n256 hp hlt)).symm
  have h1 : 1 ≤ less (ldN xs n) (2 ^ a) := by
    refine Nat.pos_of_ne_zero fun e => ?_
    rw [e, popN_zero] at e3
    rw [e] at hcard
    omega
  refine ⟨hsub, h1, hlt, ?_⟩
  rcases q : domN xs (less (ldN xs n) (2 ^ a)) with _ | _
  · rfl
  · have := ld_min hp h1 hlt q
    omega
/-- the kings dominate -/
theorem kings_dom (hp : tourP n xs) : domN xs (kgS xs n) = true := (dom_iff hp kg_lt).2 fun c hc => by
  rcases q : kingN xs c with _ | _
  · right
    have hex : ∃ b, b < n ∧ bt xs b c = true := by
      refine Classical.byContradiction fun h => ?_
      have hs : svP xs n c := ⟨hc, fun b hb => by
        rcases q2 : bt xs b c with _ | _
        · rfl
        · exact absurd ⟨b, hb, q2⟩ h⟩
      rw [(sv_king hp hs c hc).2 rfl] at q
      cases q
    obtain ⟨h1, h2, h3⟩ := kst_king hp hc hex
    exact ⟨_, h1, kg_bit.2 ⟨h1, h3⟩, h2⟩
  · exact .inl (kg_bit.2 ⟨hc, q⟩)
theorem kg_pos (hp : tourP n xs) : 1 ≤ kgS xs n := by
  obtain ⟨a, ha, hk⟩ := king_ex hp
  refine Nat.pos_of_ne_zero fun e => ?_
  have := kg_bit.2 ⟨ha, hk⟩
  rw [e, Nat.zero_testBit] at this
  cases this
theorem bkK_lt (hp : tourP n xs) : bkK xs n (2 ^ n - 1) < 2 ^ n := lt_of_testBit fun m hm => by
  rcases q : (bkK xs n (2 ^ n - 1)).testBit m with _ | _
  · rfl
  · have := (bk_king hp q).1; omega
/-- what the law asks of the sets of kings -/
theorem kg_law (hp : tourP n xs) : ∃ k b : Nat, ∃ s : Int, k = kgS xs n ∧ b = bkK xs n (2 ^ n - 1) ∧ s = svI xs n ∧ 1 ≤ k ∧ k < 256 ∧ 1 ≤ b ∧ b < 256 ∧ less b k = 0 ∧ popN 8 k ≠ 2 ∧
    ((popN 8 k = 1 ∧ 0 ≤ s ∧ k = b ∧ popN 8 b = 1) ∨ (popN 8 k ≠ 1 ∧ s = -1)) := by
  have h8 : n ≤ 8 := by have := hp.1; omega
  have hk := n256 hp (kg_lt (xs := xs) (n := n))
  have hb := n256 hp (bkK_lt hp)
  obtain ⟨c, hc⟩ := bk_some hp
  have hb1 : 1 ≤ bkK xs n (2 ^ n - 1) := Nat.pos_of_ne_zero fun e => by rw [e, Nat.zero_testBit] at hc; cases hc
  have hsub : ∀ c, (bkK xs n (2 ^ n - 1)).testBit c = true → (kgS xs n).testBit c = true := fun c h => kg_bit.2 (bk_king hp h)
  have hless : less (bkK xs n (2 ^ n - 1)) (kgS xs n) = 0 := Nat.eq_of_testBit_eq fun j => by
    rw [testBit_less, Nat.zero_testBit]
    rcases q : (bkK xs n (2 ^ n - 1)).testBit j with _ | _
    · rfl
    · rw [hsub j q]; rfl
  refine ⟨_, _, _, rfl, rfl, rfl, kg_pos hp, hk, hb1, hb, hless, ?_⟩
  rcases svI_facts hp with ⟨a, e, hs⟩ | ⟨e, hs⟩
  · have hkA := sv_kings hp hs
    have han : a < 8 := by have := hs.1; omega
    have hbA : bkK xs n (2 ^ n - 1) = 2 ^ a := Nat.eq_of_testBit_eq fun j => by
      rw [Nat.testBit_two_pow, Bool.eq_iff_iff, decide_eq_true_eq]
      constructor
      · intro h
        have := hsub j h
        rw [hkA, Nat.testBit_two_pow, decide_eq_true_eq] at this
        exact this
      · rintro rfl
        have h2 := hsub c hc
        rw [hkA, Nat.testBit_two_pow, decide_eq_true_eq] at h2
        rw [h2]; exact hc
    rw [hkA, hbA, e, pop_pow han]
    exact ⟨by decide, .inl ⟨rfl, by omega, rfl, rfl⟩⟩
  · have := king_three hp hs
    exact ⟨by omega, .inr ⟨by omega, e⟩⟩
/-- what the law asks of each player -/
theorem kg_player (hp : tourP n xs) {a : Nat} (ha : a < n) : ∃ x y : Nat, x = climbF xs 9 a ∧ y = kstepN xs a ∧ x < n ∧ y < n ∧ kingN xs x = true ∧ (kingN xs a = true → x = a) ∧ (y ≠ a → bt xs y a = true) ∧ (y = a ↔ (a : Int) = svI xs n) := by
  have hln := tour_len hp
  have hstep : ∀ a, a < n → (∃ b, b < n ∧ bt xs b a = true) ∨ svP xs n a := fun a ha => by
    by_cases h : ∃ b, b < n ∧ bt xs b a = true
    · exact .inl h
    · refine .inr ⟨ha, fun b hb => ?_⟩
      rcases q : bt xs b a with _ | _
      · rfl
      · exact absurd ⟨b, hb, q⟩ h
  have hclimb : climbF xs 9 a < n ∧ kingN xs (climbF xs 9 a) = true := by
    rcases q : kingN xs a with _ | _
    · rw [← climb_step hp (by omega) q]
      rcases hstep a ha with h | h
      · obtain ⟨h1, h2, h3⟩ := kst_king hp ha h
        rw [climb_stop h3]
        exact ⟨h1, h3⟩
      · rw [(sv_king hp h a ha).2 rfl] at q; cases q
    · rw [climb_stop q]; exact ⟨ha, q⟩
  refine ⟨_, _, rfl, rfl, hclimb.1, ?_, hclimb.2, fun h => climb_stop h, ?_, ?_⟩
  · have := kstep_lt (xs := xs) (a := a) (by omega); omega
  · intro h
    rcases hstep a ha with h1 | h1
    · exact (kst_king hp ha h1).2.1
    · exact absurd (kst_none hp h1.2) h
  · rcases svI_facts hp with ⟨s, e, hs⟩ | ⟨e, hs⟩
    · constructor
      · intro h
        rcases hstep a ha with h1 | h1
        · have h2 := (kst_king hp ha h1).2.1
          rw [h, (tr_bit hp ha ha).1 rfl] at h2; cases h2
        · have h3 : a = s := (sv_king hp hs a ha).1 ((sv_king hp h1 a ha).2 rfl)
          rw [e, h3]
      · intro h
        have : a = s := by omega
        subst this
        exact kst_none hp hs.2
    · constructor
      · intro h
        rcases hstep a ha with h1 | h1
        · have h2 := (kst_king hp ha h1).2.1
          rw [h, (tr_bit hp ha ha).1 rfl] at h2; cases h2
        · exact absurd h1 (hs a)
      · intro h; omega
/-- who has the greatest score is a king -/
theorem top_king (hp : tourP n xs) {a : Nat} (ha : a < n) (h : ∀ c, c < n → scN xs c ≤ scN xs a) : kingN xs a = true := by
  have hln := tour_len hp
  rcases q : kingN xs a with _ | _
  · have h1 := step_up hp (by omega) q
    have h2 := h (kstepN xs a) (by have := kstep_lt (xs := xs) (a := a) (by omega); omega)
    unfold scN at h2
    omega
  · rfl
/-! contracts -/
variable {sl : Value} {w : World}
def cvB (xs : List Int) (c a : Nat) : Bool := bt xs c a && decide (less (winsN xs a) (winsN xs c) = 0)
theorem cvB_iff (hp : tourP n xs) {c a : Nat} (ha : a < n) : cvB xs c a = true ↔ cvN xs n c a := by
  unfold cvB cvN
  rw [Bool.and_eq_true, decide_eq_true_eq]
  refine and_congr_right fun _ => ?_
  constructor
  · intro h j _ hj
    have := congrArg (fun z => z.testBit j) h
    simp only [testBit_less, Nat.zero_testBit] at this
    rw [show (winsN xs a).testBit j = true from hj] at this
    rcases q : bt xs c j with _ | _
    · rw [show (winsN xs c).testBit j = false from q] at this; cases this
    · rfl
  · intro h
    refine Nat.eq_of_testBit_eq fun j => ?_
    rw [testBit_less, Nat.zero_testBit]
    rcases q : (winsN xs a).testBit j with _ | _
    · rfl
    · rw [show (winsN xs c).testBit j = true from h j (bt_hi hp ha q) q]; rfl
end
/-! counts of tours by their kings -/
noncomputable def ckN (n k : Nat) (l : List Nat) : Nat := (l.filter fun c => decide (popN 8 (kgS (allL n c) n) = k)).length
theorem ck_snoc (n k : Nat) (l : List Nat) (c : Nat) : ckN n k (l ++ [c]) = ckN n k l + (decide (popN 8 (kgS (allL n c) n) = k)).toNat := by
  unfold ckN
  rw [List.filter_append, List.length_append]
  congr 1
  rw [List.filter_cons]
  cases decide (popN 8 (kgS (allL n c) n) = k) <;> simp
theorem ck_le (n k : Nat) (l : List Nat) : ckN n k l ≤ l.length := List.length_filter_le _ _
def sumK (f : Nat → Nat) : Nat → Nat
  | 0 => 0
  | k + 1 => sumK f k + f k
theorem sumK_add (f g : Nat → Nat) : ∀ k, sumK (fun i => f i + g i) k = sumK f k + sumK g k := by
  intro k
  induction k with
  | zero => rfl
  | succ k ih => simp only [sumK, ih]; omega
theorem sumK_one {v : Nat} : ∀ k, v < k → sumK (fun i => (decide (v = i)).toNat) k = 1 := by
  have h0 : ∀ k, k ≤ v → sumK (fun i => (decide (v = i)).toNat) k = 0 := by
    intro k
    induction k with
    | zero => intro _; rfl
    | succ k ih => intro h; simp only [sumK]; rw [ih (by omega), decide_eq_false (by omega)]; rfl
  intro k
  induction k with
  | zero => intro h; omega
  | succ k ih =>
    intro h
    simp only [sumK]
    by_cases e : v = k
    · subst e; rw [h0 v (Nat.le_refl _)]; simp
    · rw [ih (by omega), decide_eq_false e]; rfl
/-- each tour has some number of kings -/
theorem ck_total {n : Nat} (h1 : 1 ≤ n) (h8 : n ≤ 8) (l : List Nat) : sumK (fun k => ckN n k l) (n + 1) = l.length := by
  generalize hm : l.length = m
  induction m generalizing l with
  | zero =>
    obtain rfl := List.length_eq_zero_iff.1 hm
    have : ∀ k, sumK (fun k => ckN n k []) k = 0 := by
      intro k
      induction k with
      | zero => rfl
      | succ k ih => simp only [sumK, ih]; rfl
    exact this _
  | succ m ih =>
    obtain ⟨l', c, rfl⟩ : ∃ l' c, l = l' ++ [c] := ⟨l.dropLast, l.getLast (by intro e; subst e; cases hm), (List.dropLast_concat_getLast _).symm⟩
    have h2 := ih l' (by simpa using hm)
    have e : (fun k => ckN n k (l' ++ [c])) = fun k => ckN n k l' + (decide (popN 8 (kgS (allL n c) n) = k)).toNat := by
      funext k; exact ck_snoc n k l' c
    have hp := all_tour h1 h8 c
    have hle : popN 8 (kgS (allL n c) n) < n + 1 := by
      rw [pop_mem (n256 hp kg_lt)]
      have : memN (kgS (allL n c) n) 8 = memN (kgS (allL n c) n) n := memN_top h8 (Nat.div_eq_of_lt kg_lt)
      rw [this]
      have := memN_len (kgS (allL n c) n) n
      omega
    rw [e, sumK_add, h2, sumK_one _ hle]
theorem ck_two {n : Nat} (h1 : 1 ≤ n) (h8 : n ≤ 8) (l : List Nat) : ckN n 2 l = 0 := by
  unfold ckN
  rw [List.length_eq_zero_iff, List.filter_eq_nil_iff]
  intro c _ h
  rw [decide_eq_true_eq] at h
  obtain ⟨k, b, s, rfl, -, -, -, -, -, -, -, h2, -⟩ := kg_law (all_tour h1 h8 c)
  exact h2 h
end Go.Proofs.Ytajeledbmnndmaa

namespace Go.Proofs.Ytajeledbmnndmaa
open Go.RowKit

/-- m times the one plus n times the other -/
def mixed (xs ys : List Int) (m n : Int) : List Int := (List.range xs.length).map fun i => m * xs.getD i 0 + n * ys.getD i 0
theorem mixed_length (xs ys : List Int) (m n : Int) : (mixed xs ys m n).length = xs.length := by simp [mixed]
def mixP (xs ys : List Int) (m n : Int) : Prop := (1 ≤ xs.length ∧ xs.length ≤ 8) ∧ ys.length = xs.length ∧ (∀ x ∈ xs, 0 ≤ x ∧ x ≤ 100000) ∧ (∀ y ∈ ys, 0 ≤ y ∧ y ≤ 100000) ∧ (0 ≤ m ∧ m ≤ 1000) ∧ (0 ≤ n ∧ n ≤ 1000)
noncomputable def mixOk (xs ys : List Int) (m n : Int) : Bool := @decide (mixP xs ys m n ∧ gcdL (mixed xs ys m n) ≠ 0) (Classical.propDecidable _)
noncomputable def mixL (xs ys : List Int) (m n : Int) : List Int := if mixOk xs ys m n = true then lowL (mixed xs ys m n) else []
theorem mixOk_true {xs ys : List Int} {m n : Int} : mixOk xs ys m n = true ↔ mixP xs ys m n ∧ gcdL (mixed xs ys m n) ≠ 0 := by unfold mixOk; simp
theorem mixOk_false {xs ys : List Int} {m n : Int} (h : ¬ (mixP xs ys m n ∧ gcdL (mixed xs ys m n) ≠ 0)) : mixOk xs ys m n = false := by
  rcases hb : mixOk xs ys m n with _ | _
  · rfl
  · exact absurd (mixOk_true.1 hb) h
theorem mixL_len (xs ys : List Int) (m n : Int) : (mixL xs ys m n).length ≤ 8 := by
  unfold mixL
  split
  · rename_i h
    have := (mixOk_true.1 h).1.1
    simp [lowL, mixed_length]; omega
  · simp
theorem mixed_bd {xs ys : List Int} {m n : Int} (h : mixP xs ys m n) : ∀ x ∈ mixed xs ys m n, 0 ≤ x ∧ x ≤ 200000000 := by
  intro x hx
  obtain ⟨i, hi, rfl⟩ := List.mem_map.1 hx
  obtain ⟨_, hl, hx, hy, hm, hn⟩ := h
  have hi' : i < xs.length := by simpa using hi
  have h1 := hx xs[i] (List.getElem_mem hi')
  have h2 := hy (ys[i]'(by omega)) (List.getElem_mem _)
  have e1 : xs.getD i 0 = xs[i] := by simp [hi']
  have e2 : ys.getD i 0 = ys[i]'(by omega) := by simp [show i < ys.length by omega]
  rw [e1, e2]
  have a1 : 0 ≤ m * xs[i] := Int.mul_nonneg hm.1 h1.1
  have a2 : m * xs[i] ≤ 1000 * 100000 := Int.mul_le_mul hm.2 h1.2 h1.1 (by omega)
  have b1 : 0 ≤ n * ys[i]'(by omega) := Int.mul_nonneg hn.1 h2.1
  have b2 : n * ys[i]'(by omega) ≤ 1000 * 100000 := Int.mul_le_mul hn.2 h2.2 h2.1 (by omega)
  omega
theorem mixed_take {xs ys : List Int} {m n : Int} {k : Nat} (hk : k < xs.length) : (mixed xs ys m n).take (k + 1) = (mixed xs ys m n).take k ++ [m * xs.getD k 0 + n * ys.getD k 0] := by
  rw [List.take_succ_eq_append_getElem (by rw [mixed_length]; exact hk)]
  simp [mixed]

theorem mix_no {xs ys : List Int} {m n : Int} (h : ¬ mixP xs ys m n) : mixOk xs ys m n = false ∧ mixL xs ys m n = [] := by
  have e := mixOk_false (xs := xs) (ys := ys) (m := m) (n := n) fun hh => h hh.1
  exact ⟨e, by unfold mixL; rw [e]; rfl⟩
theorem allB_trueM {xs : List Int} {lo hi : Int} (h : ∀ x ∈ xs, lo ≤ x ∧ x ≤ hi) : allB xs lo hi = true := by
  unfold allB; rw [List.all_eq_true]; exact fun x hx => inB_true.2 (h x hx)
theorem allB_ofM {xs : List Int} {lo hi : Int} (h : allB xs lo hi = true) : ∀ x ∈ xs, lo ≤ x ∧ x ≤ hi := by
  unfold allB at h; rw [List.all_eq_true] at h; exact fun x hx => inB_true.1 (h x hx)
theorem maxI_gcd {xs : List Int} (h0 : ∀ x ∈ xs, 0 ≤ x) (hne : 0 < xs.length) : (maxI xs == 0) = true ↔ gcdL xs = 0 := by
  have h1 := maxI_pos h0 hne
  have h2 : 0 ≤ maxI xs := by
    obtain ⟨j, hj, e⟩ := maxTo_mem xs (xs.length - 1)
    have hjl : j < xs.length := by omega
    have := h0 _ (List.getElem_mem hjl)
    unfold maxI
    rw [e, List.getElem?_eq_getElem hjl]
    exact this
  rw [gcdL_zero h0, beq_iff_eq]
  constructor
  · intro h x hx
    exact Classical.byContradiction fun hne => by have := h1.2 ⟨x, hx, hne⟩; omega
  · intro h
    have : ¬ 0 < maxI xs := fun hp => by obtain ⟨x, hx, hne⟩ := h1.1 hp; exact hne (h x hx)
    omega
set_option maxHeartbeats 2000000 in
theorem implMix (v1 : Value) (xs : List Int) (v2 : Value) (ys : List Int) (m n : Int) (w : World) (h1 : Rd w v1 xs) (h2 : Rd w v2 ys) :
    Calls Try.prog 31 #[v1, v2, .int .i64 m, .int .i64 n] w fun e w' => ∃ v', e = .returned (.tuple #[v', .bool (mixOk xs ys m n)]) ∧ Own w' w.heap.size v' (mixL xs ys m n) ∧ Below w.heap.size w w' := by
  have HR1 := Lib.hid h1
  have HR2 := Lib.hid h2
  obtain ⟨A, c, rfl, hl1, hm1, hc1⟩ := h1
  obtain ⟨B, d, rfl, hl2, hm2, hc2⟩ := h2
  unfold maxLen at hm1 hm2
  clear hc1 hc2
  rcases q1 : inB xs.length 1 8 with _ | _
  case false =>
    have HN := Lib.hid (mix_no (m := m) (n := n) (xs := xs) (ys := ys) (fun hp => inB_false.1 q1 (by have := hp.1; omega)))
    go_enter Try.func31, Try.ntmps31
    go_wp2_with (first | (go_at_call 86; refine (within_any _ _ _ _).mono ?_; rintro e w1 ⟨rfl, rfl⟩) | (go_at_call 77; with_reducible refine (allWithin_any _ xs 0 100000 _ HR1.out).mono ?_; rintro e w1 ⟨rfl, hb1⟩; have HB1 := Lib.hid hb1; have HR2' := Lib.hid (HR2.out.below hb1); have HR1' := Lib.hid (HR1.out.below hb1); clear hb1) | (go_at_call 77; with_reducible refine (allWithin_any _ ys 0 100000 _ HR2'.out).mono ?_; rintro e w2 ⟨rfl, hb2⟩; have HB2 := Lib.hid (Below.then HB1.out hb2); have HR2'' := Lib.hid (HR2'.out.below hb2); have HR1'' := Lib.hid (HR1'.out.below hb2); clear hb2))
    go_ret2
    rw [HN.out.1, HN.out.2]
    first | exact ⟨_, rfl, Own.nil_ _ _, Below.refl _ _⟩ | exact ⟨_, rfl, Own.nil_ _ _, HB2.out⟩ | exact ⟨_, rfl, Own.nil_ _ _, HB1.out⟩
  have q1' := inB_true.1 q1
  rcases q2 : ((ys.length : Int) != (xs.length : Int)) with _ | _
  case true =>
    have HN := Lib.hid (mix_no (m := m) (n := n) (xs := xs) (ys := ys) (fun hp => by have := hp.2.1; simp at q2; omega))
    go_enter Try.func31, Try.ntmps31
    go_wp2_with (first | (go_at_call 86; refine (within_any _ _ _ _).mono ?_; rintro e w1 ⟨rfl, rfl⟩) | (go_at_call 77; with_reducible refine (allWithin_any _ xs 0 100000 _ HR1.out).mono ?_; rintro e w1 ⟨rfl, hb1⟩; have HB1 := Lib.hid hb1; have HR2' := Lib.hid (HR2.out.below hb1); have HR1' := Lib.hid (HR1.out.below hb1); clear hb1) | (go_at_call 77; with_reducible refine (allWithin_any _ ys 0 100000 _ HR2'.out).mono ?_; rintro e w2 ⟨rfl, hb2⟩; have HB2 := Lib.hid (Below.then HB1.out hb2); have HR2'' := Lib.hid (HR2'.out.below hb2); have HR1'' := Lib.hid (HR1'.out.below hb2); clear hb2))
    go_ret2
    rw [HN.out.1, HN.out.2]
    first | exact ⟨_, rfl, Own.nil_ _ _, Below.refl _ _⟩ | exact ⟨_, rfl, Own.nil_ _ _, HB2.out⟩ | exact ⟨_, rfl, Own.nil_ _ _, HB1.out⟩
  rcases q3 : allB xs 0 100000 with _ | _
  case false =>
    have HN := Lib.hid (mix_no (m := m) (n := n) (xs := xs) (ys := ys) (fun hp => by rw [allB_trueM hp.2.2.1] at q3; cases q3))
    go_enter Try.func31, Try.ntmps31
    go_wp2_with (first | (go_at_call 86; refine (within_any _ _ _ _).mono ?_; rintro e w1 ⟨rfl, rfl⟩) | (go_at_call 77; with_reducible refine (allWithin_any _ xs 0 100000 _ HR1.out).mono ?_; rintro e w1 ⟨rfl, hb1⟩; have HB1 := Lib.hid hb1; have HR2' := Lib.hid (HR2.out.below hb1); have HR1' := Lib.hid (HR1.out.below hb1); clear hb1) | (go_at_call 77; with_reducible refine (allWithin_any _ ys 0 100000 _ HR2'.out).mono ?_; rintro e w2 ⟨rfl, hb2⟩; have HB2 := Lib.hid (Below.then HB1.out hb2); have HR2'' := Lib.hid (HR2'.out.below hb2); have HR1'' := Lib.hid (HR1'.out.below hb2); clear hb2))
    go_ret2
    rw [HN.out.1, HN.out.2]
    first | exact ⟨_, rfl, Own.nil_ _ _, Below.refl _ _⟩ | exact ⟨_, rfl, Own.nil_ _ _, HB2.out⟩ | exact ⟨_, rfl, Own.nil_ _ _, HB1.out⟩
  rcases q4 : allB ys 0 100000 with _ | _
  case false =>
    have HN := Lib.hid (mix_no (m := m) (n := n) (xs := xs) (ys := ys) (fun hp => by rw [allB_trueM hp.2.2.2.1] at q4; cases q4))
    go_enter Try.func31, Try.ntmps31
    go_wp2_with (first | (go_at_call 86; refine (within_any _ _ _ _).mono ?_; rintro e w1 ⟨rfl, rfl⟩) | (go_at_call 77; with_reducible refine (allWithin_any _ xs 0 100000 _ HR1.out).mono ?_; rintro e w1 ⟨rfl, hb1⟩; have HB1 := Lib.hid hb1; have HR2' := Lib.hid (HR2.out.below hb1); have HR1' := Lib.hid (HR1.out.below hb1); clear hb1) | (go_at_call 77; with_reducible refine (allWithin_any _ ys 0 100000 _ HR2'.out).mono ?_; rintro e w2 ⟨rfl, hb2⟩; have HB2 := Lib.hid (Below.then HB1.out hb2); have HR2'' := Lib.hid (HR2'.out.below hb2); have HR1'' := Lib.hid (HR1'.out.below hb2); clear hb2))
    go_ret2
    rw [HN.out.1, HN.out.2]
    first | exact ⟨_, rfl, Own.nil_ _ _, Below.refl _ _⟩ | exact ⟨_, rfl, Own.nil_ _ _, HB2.out⟩ | exact ⟨_, rfl, Own.nil_ _ _, HB1.out⟩
  rcases q5 : inB m 0 1000 with _ | _
  case false =>
    have HN := Lib.hid (mix_no (m := m) (n := n) (xs := xs) (ys := ys) (fun hp => inB_false.1 q5 hp.2.2.2.2.1))
    go_enter Try.func31, Try.ntmps31
    go_wp2_with (first | (go_at_call 86; refine (within_any _ _ _ _).mono ?_; rintro e w1 ⟨rfl, rfl⟩) | (go_at_call 77; with_reducible refine (allWithin_any _ xs 0 100000 _ HR1.out).mono ?_; rintro e w1 ⟨rfl, hb1⟩; have HB1 := Lib.hid hb1; have HR2' := Lib.hid (HR2.out.below hb1); have HR1' := Lib.hid (HR1.out.below hb1); clear hb1) | (go_at_call 77; with_reducible refine (allWithin_any _ ys 0 100000 _ HR2'.out).mono ?_; rintro e w2 ⟨rfl, hb2⟩; have HB2 := Lib.hid (Below.then HB1.out hb2); have HR2'' := Lib.hid (HR2'.out.below hb2); have HR1'' := Lib.hid (HR1'.out.below hb2); clear hb2))
    go_ret2
    rw [HN.out.1, HN.out.2]
    first | exact ⟨_, rfl, Own.nil_ _ _, Below.refl _ _⟩ | exact ⟨_, rfl, Own.nil_ _ _, HB2.out⟩ | exact ⟨_, rfl, Own.nil_ _ _, HB1.out⟩
  rcases q6 : inB n 0 1000 with _ | _
  case false =>
    have HN := Lib.hid (mix_no (m := m) (n := n) (xs := xs) (ys := ys) (fun hp => inB_false.1 q6 hp.2.2.2.2.2))
    go_enter Try.func31, Try.ntmps31
    go_wp2_with (first | (go_at_call 86; refine (within_any _ _ _ _).mono ?_; rintro e w1 ⟨rfl, rfl⟩) | (go_at_call 77; with_reducible refine (allWithin_any _ xs 0 100000 _ HR1.out).mono ?_; rintro e w1 ⟨rfl, hb1⟩; have HB1 := Lib.hid hb1; have HR2' := Lib.hid (HR2.out.below hb1); have HR1' := Lib.hid (HR1.out.below hb1); clear hb1) | (go_at_call 77; with_reducible refine (allWithin_any _ ys 0 100000 _ HR2'.out).mono ?_; rintro e w2 ⟨rfl, hb2⟩; have HB2 := Lib.hid (Below.then HB1.out hb2); have HR2'' := Lib.hid (HR2'.out.below hb2); have HR1'' := Lib.hid (HR1'.out.below hb2); clear hb2))
    go_ret2
    rw [HN.out.1, HN.out.2]
    first | exact ⟨_, rfl, Own.nil_ _ _, Below.refl _ _⟩ | exact ⟨_, rfl, Own.nil_ _ _, HB2.out⟩ | exact ⟨_, rfl, Own.nil_ _ _, HB1.out⟩
  have hP : mixP xs ys m n := ⟨by omega, by simp at q2; omega, allB_ofM q3, allB_ofM q4, inB_true.1 q5, inB_true.1 q6⟩
  have hbd := mixed_bd hP
  have HP := Lib.hid hP
  have hm := inB_true.1 q5
  have hn := inB_true.1 q6
  have HL := Lib.hid hP.2.1
  have HBD := Lib.hid hbd
  clear hP hbd
  go_enter Try.func31, Try.ntmps31
  go_wp2_with (first | (go_at_call 86; refine (within_any _ _ _ _).mono ?_; rintro e w1 ⟨rfl, rfl⟩) | (go_at_call 77; with_reducible refine (allWithin_any _ xs 0 100000 _ HR1.out).mono ?_; rintro e w1 ⟨rfl, hb1⟩; have HB1 := Lib.hid hb1; have HR2' := Lib.hid (HR2.out.below hb1); have HR1' := Lib.hid (HR1.out.below hb1); clear hb1) | (go_at_call 77; with_reducible refine (allWithin_any _ ys 0 100000 _ HR2'.out).mono ?_; rintro e w2 ⟨rfl, hb2⟩; have HB2 := Lib.hid (Below.then HB1.out hb2); have HR2'' := Lib.hid (HR2'.out.below hb2); have HR1'' := Lib.hid (HR1'.out.below hb2); clear hb2))
  have hB0 := HB2.out
  have HBW := Lib.hid hB0.size
  have X1 := HR1''
  have X2 := HR2''
  clear HB1 HR1' HR2' HR1'' HR2''
  obtain ⟨A', c', e1, hl1', hm1', hx1⟩ := X1.out
  obtain ⟨B', d', e2, hl2', hm2', hx2⟩ := X2.out
  cases e1
  cases e2
  have HX1 := Lib.hid hx1
  have HX2 := Lib.hid hx2
  clear hx1 hx2 X1 X2
  go_loopw [10, 46] (fun s i wr => ∃ k : Nat, k ≤ xs.length ∧ i = .int .i64 k ∧ Own wr w2.heap.size s ((mixed xs ys m n).take k) ∧ Below w2.heap.size w2 wr ∧ Below w.heap.size w wr) (fun _ i _ => xs.length - (intOf i).toNat)
  case atStart => exact ⟨0, by omega, rfl, Own.nil_ _ _, Below.refl _ _, hB0⟩
  case round =>
    obtain ⟨k, hk, rfl, hown, hb2, hb⟩ := hrel
    by_cases hlt : k < xs.length
    · obtain ⟨b, off, rfl, hbb, hx⟩ := HX1.out (by omega)
      obtain ⟨b', off', rfl, hbb', hy⟩ := HX2.out (by have := HL.out; omega)
      have hxk : wr.cell? ⟨b, off + k, none⟩ = some (.int .i64 (xs.getD k 0)) := (hb2.cell (by exact hbb)).trans (hx k (by omega))
      have hyk : wr.cell? ⟨b', off' + k, none⟩ = some (.int .i64 (ys.getD k 0)) := (hb2.cell (by exact hbb')).trans (hy k (by have := HL.out; omega))
      have px := HP.out.2.2.1 xs[k] (List.getElem_mem _)
      have hlk : k < ys.length := by rw [HL.out]; exact hlt
      have py := HP.out.2.2.2.1 ys[k] (List.getElem_mem _)
      have a1 : 0 ≤ m * xs[k] := Int.mul_nonneg hm.1 px.1
      have a2 : m * xs[k] ≤ 1000 * 100000 := Int.mul_le_mul hm.2 px.2 px.1 (by omega)
      have b1 : 0 ≤ n * ys[k] := Int.mul_nonneg hn.1 py.1
      have b2 : n * ys[k] ≤ 1000 * 100000 := Int.mul_le_mul hn.2 py.2 py.1 (by omega)
      have hl2 : ((mixed xs ys m n).take k).length ≤ 8 := by rw [List.length_take]; omega
      have hbs := hb2.size
      have hbw := HBW.out
      have HO := Lib.hid hown
      have HB := Lib.hid hb
      have HB2' := Lib.hid hb2
      clear hx hy hown hb hb2
      go_wp2_with (at_builtin; refine wp_append1 _ rfl (.tmp 51) (.tmp 62) rfl w2.heap.size _ _ _ rfl HO.out rfl (by omega) (by omega) ?_; intro v' w3 hown1 hg1)
      have hb1 := below_append HB.out hg1 HO.out hbw hbs
      have hb3 := below_append HB2'.out hg1 HO.out (Nat.le_refl _) hbs
      go_roundw
      case rel =>
        refine ⟨k + 1, by omega, by go_num, ?_, hb3, hb1⟩
        rw [mixed_take (by exact hlt)]
        simpa [hlk, hlt] using hown1
      case measure => simp [intOf]; omega
    · obtain rfl : k = xs.length := by omega
      have hfull : (mixed xs ys m n).take xs.length = mixed xs ys m n := List.take_of_length_le (by rw [mixed_length]; exact Nat.le_refl _)
      rw [hfull] at hown
      have HO := Lib.hid hown
      have HB := Lib.hid hb
      have hlm : 0 < (mixed xs ys m n).length := by rw [mixed_length]; omega
      have HLM := Lib.hid hlm
      obtain ⟨Y, cy, rfl, -, -, -⟩ := hown.form
      have hiff := maxI_gcd (fun x hx => (HBD.out x hx).1) hlm
      have HI := Lib.hid hiff
      clear hown hb hb2 hfull hlm hiff
      rcases hz : (maxI (mixed xs ys m n) == 0) with _ | _
      · have hg : gcdL (mixed xs ys m n) ≠ 0 := fun h0 => by
          have := HI.out.2 h0
          rw [hz] at this
          cases this
        have HM : Hid (mixOk xs ys m n = true ∧ mixL xs ys m n = lowL (mixed xs ys m n)) := by
          have := mixOk_true.2 ⟨HP.out, hg⟩
          exact ⟨this, by unfold mixL; rw [if_pos this]⟩
        have HG := Lib.hid hg
        clear hg
        go_wp2_with (go_at_call 78; refine (max_any _ (mixed xs ys m n) _ HO.out.rd HLM.out).mono ?_; rintro e w3 ⟨rfl, rfl⟩)
        refine (lowest_any _ (mixed xs ys m n) _ HO.out.rd (fun x hx => by have := HBD.out x hx; omega) HG.out (by rw [mixed_length]; omega)).mono ?_
        rintro e w3 ⟨v', rfl, ho3, hb3, -⟩
        go_wp2
        go_ret2
        rw [HM.out.1, HM.out.2]
        exact ⟨_, rfl, ho3.mono HB.out.size, Below.then HB.out hb3⟩
      · have hg : gcdL (mixed xs ys m n) = 0 := HI.out.1 hz
        have HM : Hid (mixOk xs ys m n = false ∧ mixL xs ys m n = []) := by
          have := mixOk_false (xs := xs) (ys := ys) (m := m) (n := n) (fun h => h.2 hg)
          exact ⟨this, by unfold mixL; rw [this]; rfl⟩
        clear hg
        go_wp2_with (go_at_call 78; refine (max_any _ (mixed xs ys m n) _ HO.out.rd HLM.out).mono ?_; rintro e w3 ⟨rfl, rfl⟩)
        go_ret2
        rw [HM.out.1, HM.out.2]
        exact ⟨_, rfl, Own.nil_ _ _, HB.out⟩
end Go.Proofs.Ytajeledbmnndmaa

namespace Go.Proofs.Ytajeledbmnndmaa
open Go.RowKit

end Go.Proofs.Ytajeledbmnndmaa

