/- tourOf: a tour out of a predicate. -/
import Derived.Test.YtkcffjojklmbpabHof
import Derived.Test.YtkcffjojklmbpabSets
import Derived.Test.YtkcffjojklmbpabTail
import Derived.Test.YtkcffjojklmbpabOwn0
import Derived.Test.YtkcffjojklmbpabRep
import Derived.Test.YtkcffjojklmbpabAppR
namespace Go.Proofs.Ytkcffjojklmbpab
open Go.RowKit Go.Sort
set_option maxRecDepth 100000

def toQ (p : Nat → Nat → Bool) (a b : Nat) : Bool := !(a == b) && p a b
def toL (p : Nat → Nat → Bool) (n : Nat) : List Int := (List.range n).map fun a => ((setOf (toQ p a) n : Nat) : Int)
theorem toL_len (p : Nat → Nat → Bool) (n : Nat) : (toL p n).length = n := by simp [toL]
/-- the rows that grow -/
def toRow (p : Nat → Nat → Bool) (N : List Int) (n a j : Nat) : Prop := ∀ i, i < n → N.getD i 0 = if i < a then ((setOf (toQ p i) n : Nat) : Int) else if i = a then ((setOf (toQ p a) j : Nat) : Int) else 0
theorem toRow_start {p : Nat → Nat → Bool} {n : Nat} : toRow p (List.replicate n 0) n 0 0 := fun i hi => by
  have : (List.replicate n (0 : Int)).getD i 0 = 0 := by simp [hi]
  rw [this]; simp [setOf]
theorem toRow_next {p : Nat → Nat → Bool} {N : List Int} {n a : Nat} (h : toRow p N n a n) : toRow p N n (a + 1) 0 := fun i hi => by
  rw [h i hi]
  by_cases h1 : i < a
  · rw [if_pos h1, if_pos (by omega)]
  · rw [if_neg h1]
    by_cases h2 : i = a
    · subst h2; rw [if_pos rfl, if_pos (by omega)]
    · rw [if_neg h2, if_neg (by omega)]; simp [setOf]
theorem toRow_no {p : Nat → Nat → Bool} {N : List Int} {n a j : Nat} (h : toRow p N n a j) (hq : toQ p a j = false) : toRow p N n a (j + 1) := fun i hi => by
  rw [h i hi]
  simp [setOf, hq]
theorem toRow_at {p : Nat → Nat → Bool} {N : List Int} {n a j : Nat} (h : toRow p N n a j) (ha : a < n) : N.getD a 0 = ((setOf (toQ p a) j : Nat) : Int) := by
  rw [h a ha, if_neg (by omega), if_pos rfl]
theorem setOf_or {q : Nat → Bool} {j : Nat} (hj : j ≤ 60) (hq : q j = true) : setOf q j ||| 2 ^ j = setOf q (j + 1) := by
  have h1 := setOf_lt q j
  have h2 : (setOf q j).testBit j = false := Nat.testBit_lt_two_pow h1
  have h3 : setOf q j < 2 ^ 62 := Nat.lt_of_lt_of_le h1 (Nat.pow_le_pow_right (by decide) (by omega))
  rw [← add_or h3 (by omega) h2]
  simp [setOf, hq]
theorem toRow_yes {p : Nat → Nat → Bool} {N : List Int} {n a j : Nat} {v : Nat} (hl : N.length = n) (h : toRow p N n a j) (ha : a < n) (hv : v = setOf (toQ p a) (j + 1)) : toRow p (N.set a v) n a (j + 1) := fun i hi => by
  by_cases h2 : i = a
  · subst h2
    rw [getD_set_same _ (by omega), if_neg (by omega), if_pos rfl, hv]
  · rw [getD_set_other _ (Ne.symm h2), h i hi, if_neg h2, if_neg h2]
theorem toRow_end {p : Nat → Nat → Bool} {N : List Int} {n : Nat} (hl : N.length = n) (h : toRow p N n n 0) : N = toL p n :=
  list_ext0 hl (toL_len p n) fun i hi => by
    rw [h i hi, if_pos hi]
    simp [toL, hi]
set_option maxHeartbeats 4000000 in
theorem tourOf_any (n : Nat) (hn1 : 1 ≤ n) (hn : n ≤ 8) (F : FuncId) (caps : Array Value) (hE : Enters F) (p : Nat → Nat → Bool) (w : World)
    (hf : ∀ a b, a < n → b < n → ∀ w', Below w.heap.size w w' → Calls Try.prog F (#[.int .i64 a, .int .i64 b] ++ caps) w' fun e w'' => e = .returned (.bool (p a b)) ∧ Below w'.heap.size w' w'') :
    Calls Try.prog 67 #[.int .i64 n, .func (.func F) #[] caps] w fun e w' => ∃ sl', e = .returned (.agg #[.int .i64 n, sl']) ∧ Own w' w.heap.size sl' (toL p n) ∧ Below w.heap.size w w' := by
  obtain ⟨i0, hi, hz0, hz1, hz2⟩ := info_parts i64_info
  have HF := Lib.hid hf
  clear hf
  have hE' : ∀ (args : Array Value) (W : World), (callFunc F args).run Try.prog W = .ok (.enter F args) W := hE
  have hT0 := BoxF.new w 0 (.slice none 0 0) 28
  have HT0 := Lib.hid hT0
  have HB0 := Lib.hid (below_alloc1 w (.cells #[.int .i64 0, .slice none 0 0] 28))
  clear hT0
  go_enter Try.func67, Try.ntmps67
  go_wp2_with (at_make; refine wpList_make_full _ rfl _ _ 22 rfl (w.alloc (.cells #[.int .i64 0, .slice none 0 0] 28)).heap.size 3 i0 (.int .i64 0) 1 Try.underlying22 hi hz0 hz1 _ _ _ _ n rfl rfl rfl rfl (by rw [hz2]; omega) (by unfold maxLen; omega) (Nat.le_refl _) ?_; intro w1 hown hg1; have hb1 : Below (w.alloc (.cells #[.int .i64 0, .slice none 0 0] 28)).heap.size (w.alloc (.cells #[.int .i64 0, .slice none 0 0] 28)) w1 := (Below.refl _ _).grown hg1 (Nat.le_refl _) (by simp); have HT1 := Lib.hid (HT0.out.below hb1); have HB1 := Lib.hid (Below.then HB0.out hb1); have HOWN := Lib.hid hown; have hsz1 := hb1.size; clear hown hg1 hb1)
  simp only [World.size_alloc] at HOWN hsz1
  have hgl := (World.ownsRow.lt HOWN.out (w.heap.size + 1) rfl).2
  have bU := below_alloc1 w1 (.cells #[.int .i64 n, .slice (some ⟨w.heap.size + 1, 0, none⟩) n n] 28)
  have HU2 := Lib.hid (BoxF.new w1 n (.slice (some ⟨w.heap.size + 1, 0, none⟩) n n) 28)
  have HT2 := Lib.hid (HT1.out.below bU)
  have HB2 := Lib.hid (Below.then HB1.out bU)
  have HO2 : Hid (Own (w1.alloc (.cells #[.int .i64 n, .slice (some ⟨w.heap.size + 1, 0, none⟩) n n] 28)) (w.heap.size + 1) (.slice (some ⟨w.heap.size + 1, 0, none⟩) n n) (List.replicate n 0)) := by
    have ho := HOWN.out
    rw [ints_made'] at ho
    refine Own.below (w := w1) ?_ bU
    unfold Own
    rw [List.length_replicate]
    exact ho
  generalize w1.alloc (.cells #[.int .i64 n, .slice (some ⟨w.heap.size + 1, 0, none⟩) n n] 28) = w2 at *
  generalize hgt : w1.heap.size = gt at *
  generalize hgl' : w.heap.size + 1 = gl at *
  have HG : Hid (gl = w.heap.size + 1) := hgl'.symm
  clear bU HOWN HT1 HB1 HT0 HB0 hgt hgl'
  have hgg : gl < gt := by omega
  go_loopw [13] (fun i wr => ∃ (a : Nat) (N : List Int), a ≤ n ∧ i = .int .i64 a ∧ N.length = n ∧ Own wr gl (.slice (some ⟨gl, 0, none⟩) n n) N ∧ Hid (toRow p N n a 0) ∧ BoxF wr gt n (.slice (some ⟨gl, 0, none⟩) n n) ∧ BoxF wr w.heap.size 0 (.slice none 0 0) ∧ Below w.heap.size w wr) (fun i _ => n - (intOf i).toNat)
  case atStart => exact ⟨0, _, by omega, rfl, by simp, HO2.out, toRow_start, HU2.out, HT2.out, HB2.out⟩
  case round =>
    obtain ⟨wa, rfl⟩ : ∃ x, x = wr := ⟨_, rfl⟩
    obtain ⟨a, N, ha, rfl, hNl, hown, HP, hu, ht, hb⟩ := hrel
    have HOa := Lib.hid hown
    have HUa := Lib.hid hu
    have HTa := Lib.hid ht
    have HBa := Lib.hid hb
    clear hown hu ht hb
    by_cases hlta : a < n
    · go_wp2
      go_loopw [17] (fun i wr => ∃ (b : Nat) (N : List Int), b ≤ n ∧ i = .int .i64 b ∧ N.length = n ∧ Own wr gl (.slice (some ⟨gl, 0, none⟩) n n) N ∧ Hid (toRow p N n a b) ∧ BoxF wr gt n (.slice (some ⟨gl, 0, none⟩) n n) ∧ BoxF wr w.heap.size 0 (.slice none 0 0) ∧ Below w.heap.size w wr) (fun i _ => n - (intOf i).toNat)
      case atStart => exact ⟨0, N, by omega, rfl, hNl, HOa.out, HP, HUa.out, HTa.out, HBa.out⟩
      case round =>
        obtain ⟨b, M, hbn, rfl, hMl, hown, HP2, hu, ht, hb⟩ := hrel
        have HO := Lib.hid hown
        have HU := Lib.hid hu
        have HT := Lib.hid ht
        have HB := Lib.hid hb
        clear hown hu ht hb
        by_cases hltb : b < n
        · by_cases hab : a = b
          · subst hab
            have hq : toQ p a a = false := by simp [toQ]
            have HR := Lib.hid (toRow_no HP2.out hq)
            have hne : ((a : Int) != (a : Int)) = false := by simp
            go_wp2
            go_roundw
            case rel => exact ⟨a + 1, M, by omega, by go_num, hMl, HO.out, HR.out, HU.out, HT.out, HB.out⟩
            case measure => simp [intOf]; omega
          · have hne : ((a : Int) != (b : Int)) = true := by simp; omega
            go_wp2_with fail
            refine (HF.out a b hlta hltb _ HB.out).mono ?_
            rintro e w5 ⟨rfl, hb5⟩
            have HO5 := Lib.hid (HO.out.below hb5)
            have HU5 := Lib.hid (HU.out.below hb5)
            have HT5 := Lib.hid (HT.out.below hb5)
            have HB5 := Lib.hid (Below.then HB.out hb5)
            clear hb5 HO HU HT HB
            rcases hq1 : p a b with _ | _
            · have hq : toQ p a b = false := by simp [toQ, hq1]
              have HR := Lib.hid (toRow_no HP2.out hq)
              go_wp2
              go_roundw
              case rel => exact ⟨b + 1, M, by omega, by go_num, hMl, HO5.out, HR.out, HU5.out, HT5.out, HB5.out⟩
              case measure => simp [intOf]; omega
            · have hq : toQ p a b = true := by simp [toQ, hq1, hab]
              have za := (HO5.out.at1 hMl (by omega)).1 a hlta
              rw [toRow_at HP2.out hlta] at za
              have hS := setOf_small (toQ p a) (show b ≤ 8 by omega)
              have HS := Lib.hid (setOf_or (j := b) (by omega) hq)
              have hor := or_shl (setOf (toQ p a) b) b (by omega) (by omega)
              have hS2 := setOf_small (toQ p a) (show b + 1 ≤ 8 by omega)
              rw [HS.out] at hor
              generalize hX : setOf (toQ p a) (b + 1) = X at *
              have HX := Lib.hid hX
              generalize setOf (toQ p a) b = S at *
              go_wp2_with fail
              have c1 := cell_regrown HU5.out.1.2
              have c2 := cell_regrown za
              clear za hX hq hq1
              refine wp_region_below_tail 9 (by kernel_rfl) (by kernel_rfl) ?_
              simp only [List.take_succ_cons, List.take_zero, List.drop_succ_cons, List.drop_zero]
              repeat (go_big_quiet_step (first | (with_reducible fail)))
              refine wpQuiet_nil ?_
              intro wq hbq0
              have hbq := Lib.hid hbq0
              clear hbq0
              clear c1 c2 hor
              have O2 := HO5.out.below hbq.out
              obtain ⟨hx2, hf2⟩ := O2.at1 hMl (by omega)
              have za := hx2 a hlta
              have fa := hf2 a
              have O3 := (O2.set_ hMl a (X : Int)).1
              have HO3 := Lib.hid O3
              have HU3 := Lib.hid ((HU5.out.below hbq.out).kept (setCell_grown _ ⟨gl, a, none⟩ (.int .i64 X)) (by simp; omega))
              have HT3 := Lib.hid ((HT5.out.below hbq.out).kept (setCell_grown _ ⟨gl, a, none⟩ (.int .i64 X)) (by have := HG.out; simp; omega))
              have HB3 := Lib.hid ((Below.then HB5.out hbq.out).setCell (p := ⟨gl, a, none⟩) (show w.heap.size ≤ gl by have := HG.out; omega) (.int .i64 X))
              clear hx2 hf2 O2 O3 HO5 HU5 HT5 HB5 hbq
              go_wp2
              go_roundw
              case rel => exact ⟨b + 1, M.set a X, by omega, by go_num, by simp [hMl], HO3.out, toRow_yes hMl HP2.out hlta HX.out.symm, HU3.out, HT3.out, HB3.out⟩
              case measure => simp [intOf]; omega
        · obtain rfl : n = b := by omega
          have HR := Lib.hid (toRow_next HP2.out)
          go_wp2
          go_roundw
          case rel => exact ⟨a + 1, M, by omega, by go_num, hMl, HO.out, HR.out, HU.out, HT.out, HB.out⟩
          case measure => simp [intOf]; omega
    · obtain rfl : n = a := by omega
      have HE := Lib.hid (toRow_end hNl HP.out)
      have u0 := HUa.out.1.1
      have u1 := HUa.out.1.2
      have v0 := HTa.out.1.1
      have v1 := HTa.out.1.2
      have f0 := HTa.out.2 0
      have f1 := HTa.out.2 1
      have hw2 := HUa.out.gt
      have hgg2 : gt ≠ w.heap.size := by have := HG.out; omega
      have hgg3 : w.heap.size < gl := by have := HG.out; omega
      have HOx := Lib.hid ((HOa.out.kept (setCell_grown _ ⟨w.heap.size, 0, none⟩ (.int .i64 n)) (own_ne (fun k hk => (HOa.out.lt k hk).1) hgg3)).kept (setCell_grown _ ⟨w.heap.size, 1, none⟩ (.slice (some ⟨gl, 0, none⟩) n n)) (own_ne (fun k hk => (HOa.out.lt k hk).1) hgg3))
      have HBx := Lib.hid ((HBa.out.setCell (p := ⟨w.heap.size, 0, none⟩) (Nat.le_refl _) (.int .i64 n)).setCell (p := ⟨w.heap.size, 1, none⟩) (Nat.le_refl _) (.slice (some ⟨gl, 0, none⟩) n n))
      have R0 : Hid (((wa.setCell ⟨w.heap.size, 0, none⟩ (.int .i64 n)).setCell ⟨w.heap.size, 1, none⟩ (.slice (some ⟨gl, 0, none⟩) n n)).cell? ⟨w.heap.size, 0, none⟩ = some (.int .i64 n)) := (World.cell?_setCell_other _ _ _ _ (by simp)).trans (World.cell?_setCell_same _ _ _ v0)
      have R1 : Hid (((wa.setCell ⟨w.heap.size, 0, none⟩ (.int .i64 n)).setCell ⟨w.heap.size, 1, none⟩ (.slice (some ⟨gl, 0, none⟩) n n)).cell? ⟨w.heap.size, 1, none⟩ = some (.slice (some ⟨gl, 0, none⟩) n n)) := World.cell?_setCell_same _ _ _ ((World.cell?_setCell_other _ _ _ _ (by simp)).trans v1)
      go_wp2
      have r0 := R0.out
      have r1 := R1.out
      refine bodyPost_ret (v := .agg #[.int .i64 n, .slice (some ⟨gl, 0, none⟩) n n]) (by simp only [results, Try.results67]; simp [go_sem, r0, r1]) rfl ⟨_, rfl, ?_, HBx.out⟩
      rw [← HE.out]
      exact HOx.out.mono (by omega)
end Go.Proofs.Ytkcffjojklmbpab
