/- Texts put together: TOf, SumN, AllW, Tour, TourOk, TourOkS. -/
import Derived.Test.YtbkiedhaacapbaaDoorMTours01
namespace Go.Proofs.YtbkiedhaacapbaaDoor
open Go.RowKit Go.Sort
set_option maxRecDepth 100000

def toQ (p : Nat → Nat → Bool) (a b : Nat) : Bool := !(a == b) && p a b
def toL (p : Nat → Nat → Bool) (n : Nat) : List Int := (List.range n).map fun a => ((setOf (toQ p a) n : Nat) : Int)
theorem toL_len (p : Nat → Nat → Bool) (n : Nat) : (toL p n).length = n := by simp [toL]
/-- the rows that grow -/
def toRow (p : Nat → Nat → Bool) (N : List Int) (n a j : Nat) : Prop := ∀ i, i < n → N.getD i 0 = if i < a then ((setOf (toQ p i) n : Nat) : Int) else if i = a then ((setOf (toQ p a) j : Nat) : Int) else 0
theorem toRow_start {p : Nat → Nat → Bool} {n : Nat} : toRow p (List.replicate n 0) n 0 0 := fun i hi => by
  have : (List.replicate n (0 : Int)).getD i 0 = 0 := by simp [hi]
  rw [this]; simp [setOf]
theorem toRow_next {p : Nat → Nat → Bool} {N : List Int} {n a : Nat} (h : toRow p N n a n) : toRow p N n (a + 1) 0 := fun i hi => by
  rw [h i hi]
  by_cases h1 : i < a
  · rw [if_pos h1, if_pos (by omega)]
  · rw [if_neg h1]
    by_cases h2 : i = a
    · subst h2; rw [if_pos rfl, if_pos (by omega)]
    · rw [if_neg h2, if_neg (by omega)]; simp [setOf]
theorem toRow_no {p : Nat → Nat → Bool} {N : List Int} {n a j : Nat} (h : toRow p N n a j) (hq : toQ p a j = false) : toRow p N n a (j + 1) := fun i hi => by
  rw [h i hi]
  simp [setOf, hq]
theorem toRow_at {p : Nat → Nat → Bool} {N : List Int} {n a j : Nat} (h : toRow p N n a j) (ha : a < n) : N.getD a 0 = ((setOf (toQ p a) j : Nat) : Int) := by
  rw [h a ha, if_neg (by omega), if_pos rfl]
theorem setOf_or {q : Nat → Bool} {j : Nat} (hj : j ≤ 60) (hq : q j = true) : setOf q j ||| 2 ^ j = setOf q (j + 1) := by
  have h1 := setOf_lt q j
  have h2 : (setOf q j).testBit j = false := Nat.testBit_lt_two_pow h1
  have h3 : setOf q j < 2 ^ 62 := Nat.lt_of_lt_of_le h1 (Nat.pow_le_pow_right (by decide) (by omega))
  rw [← add_or h3 (by omega) h2]
  simp [setOf, hq]
theorem toRow_yes {p : Nat → Nat → Bool} {N : List Int} {n a j : Nat} {v : Nat} (hl : N.length = n) (h : toRow p N n a j) (ha : a < n) (hv : v = setOf (toQ p a) (j + 1)) : toRow p (N.set a v) n a (j + 1) := fun i hi => by
  by_cases h2 : i = a
  · subst h2
    rw [getD_set_same _ (by omega), if_neg (by omega), if_pos rfl, hv]
  · rw [getD_set_other _ (Ne.symm h2), h i hi, if_neg h2, if_neg h2]
theorem toRow_end {p : Nat → Nat → Bool} {N : List Int} {n : Nat} (hl : N.length = n) (h : toRow p N n n 0) : N = toL p n :=
  list_ext0 hl (toL_len p n) fun i hi => by
    rw [h i hi, if_pos hi]
    simp [toL, hi]
set_option maxHeartbeats 4000000 in
theorem tourOf_any (n : Nat) (hn1 : 1 ≤ n) (hn : n ≤ 8) (F : FuncId) (caps : Array Value) (hE : Enters F) (p : Nat → Nat → Bool) (w : World)
    (hf : ∀ a b, a < n → b < n → ∀ w', Below w.heap.size w w' → Calls Tryd.prog F (#[.int .i64 a, .int .i64 b] ++ caps) w' fun e w'' => e = .returned (.bool (p a b)) ∧ Below w'.heap.size w' w'') :
    Calls Tryd.prog 50 #[.int .i64 n, .func (.func F) #[] caps] w fun e w' => ∃ sl', e = .returned (.agg #[.int .i64 n, sl']) ∧ Own w' w.heap.size sl' (toL p n) ∧ Below w.heap.size w w' := by
  obtain ⟨i0, hi, hz0, hz1, hz2⟩ := info_parts i64_info
  have HF := Lib.hid hf
  clear hf
  have hE' : ∀ (args : Array Value) (W : World), (callFunc F args).run Tryd.prog W = .ok (.enter F args) W := hE
  have hT0 := BoxF.new w 0 (.slice none 0 0) 25
  have HT0 := Lib.hid hT0
  have HB0 := Lib.hid (below_alloc1 w (.cells #[.int .i64 0, .slice none 0 0] 25))
  clear hT0
  go_enter Tryd.func50, Tryd.ntmps50
  go_wp2_with (at_make; refine wpList_make_full _ rfl _ _ 23 rfl (w.alloc (.cells #[.int .i64 0, .slice none 0 0] 25)).heap.size 3 i0 (.int .i64 0) 1 Tryd.underlying23 hi hz0 hz1 _ _ _ _ n rfl rfl rfl rfl (by rw [hz2]; omega) (by unfold maxLen; omega) (Nat.le_refl _) ?_; intro w1 hown hg1; have hb1 : Below (w.alloc (.cells #[.int .i64 0, .slice none 0 0] 25)).heap.size (w.alloc (.cells #[.int .i64 0, .slice none 0 0] 25)) w1 := (Below.refl _ _).grown hg1 (Nat.le_refl _) (by simp); have HT1 := Lib.hid (HT0.out.below hb1); have HB1 := Lib.hid (Below.then HB0.out hb1); have HOWN := Lib.hid hown; have hsz1 := hb1.size; clear hown hg1 hb1)
  simp only [World.size_alloc] at HOWN hsz1
  have hgl := (World.ownsRow.lt HOWN.out (w.heap.size + 1) rfl).2
  have bU := below_alloc1 w1 (.cells #[.int .i64 n, .slice (some ⟨w.heap.size + 1, 0, none⟩) n n] 25)
  have HU2 := Lib.hid (BoxF.new w1 n (.slice (some ⟨w.heap.size + 1, 0, none⟩) n n) 25)
  have HT2 := Lib.hid (HT1.out.below bU)
  have HB2 := Lib.hid (Below.then HB1.out bU)
  have HO2 : Hid (Own (w1.alloc (.cells #[.int .i64 n, .slice (some ⟨w.heap.size + 1, 0, none⟩) n n] 25)) (w.heap.size + 1) (.slice (some ⟨w.heap.size + 1, 0, none⟩) n n) (List.replicate n 0)) := by
    have ho := HOWN.out
    rw [ints_made'] at ho
    refine Own.below (w := w1) ?_ bU
    unfold Own
    rw [List.length_replicate]
    exact ho
  generalize w1.alloc (.cells #[.int .i64 n, .slice (some ⟨w.heap.size + 1, 0, none⟩) n n] 25) = w2 at *
  generalize hgt : w1.heap.size = gt at *
  generalize hgl' : w.heap.size + 1 = gl at *
  have HG : Hid (gl = w.heap.size + 1) := hgl'.symm
  clear bU HOWN HT1 HB1 HT0 HB0 hgt hgl'
  have hgg : gl < gt := by omega
  go_loopw [13] (fun i wr => ∃ (a : Nat) (N : List Int), a ≤ n ∧ i = .int .i64 a ∧ N.length = n ∧ Own wr gl (.slice (some ⟨gl, 0, none⟩) n n) N ∧ Hid (toRow p N n a 0) ∧ BoxF wr gt n (.slice (some ⟨gl, 0, none⟩) n n) ∧ BoxF wr w.heap.size 0 (.slice none 0 0) ∧ Below w.heap.size w wr) (fun i _ => n - (intOf i).toNat)
  case atStart => exact ⟨0, _, by omega, rfl, by simp, HO2.out, toRow_start, HU2.out, HT2.out, HB2.out⟩
  case round =>
    obtain ⟨wa, rfl⟩ : ∃ x, x = wr := ⟨_, rfl⟩
    obtain ⟨a, N, ha, rfl, hNl, hown, HP, hu, ht, hb⟩ := hrel
    have HOa := Lib.hid hown
    have HUa := Lib.hid hu
    have HTa := Lib.hid ht
    have HBa := Lib.hid hb
    clear hown hu ht hb
    by_cases hlta : a < n
    · go_wp2
      go_loopw [17] (fun i wr => ∃ (b : Nat) (N : List Int), b ≤ n ∧ i = .int .i64 b ∧ N.length = n ∧ Own wr gl (.slice (some ⟨gl, 0, none⟩) n n) N ∧ Hid (toRow p N n a b) ∧ BoxF wr gt n (.slice (some ⟨gl, 0, none⟩) n n) ∧ BoxF wr w.heap.size 0 (.slice none 0 0) ∧ Below w.heap.size w wr) (fun i _ => n - (intOf i).toNat)
      case atStart => exact ⟨0, N, by omega, rfl, hNl, HOa.out, HP, HUa.out, HTa.out, HBa.out⟩
      case round =>
        obtain ⟨b, M, hbn, rfl, hMl, hown, HP2, hu, ht, hb⟩ := hrel
        have HO := Lib.hid hown
        have HU := Lib.hid hu
        have HT := Lib.hid ht
        have HB := Lib.hid hb
        clear hown hu ht hb
        by_cases hltb : b < n
        · by_cases hab : a = b
          · subst hab
            have hq : toQ p a a = false := by simp [toQ]
            have HR := Lib.hid (toRow_no HP2.out hq)
            have hne : ((a : Int) != (a : Int)) = false := by simp
            go_wp2
            go_roundw
            case rel => exact ⟨a + 1, M, by omega, by go_num, hMl, HO.out, HR.out, HU.out, HT.out, HB.out⟩
            case measure => simp [intOf]; omega
          · have hne : ((a : Int) != (b : Int)) = true := by simp; omega
            go_wp2_with fail
            refine (HF.out a b hlta hltb _ HB.out).mono ?_
            rintro e w5 ⟨rfl, hb5⟩
            have HO5 := Lib.hid (HO.out.below hb5)
            have HU5 := Lib.hid (HU.out.below hb5)
            have HT5 := Lib.hid (HT.out.below hb5)
            have HB5 := Lib.hid (Below.then HB.out hb5)
            clear hb5 HO HU HT HB
            rcases hq1 : p a b with _ | _
            · have hq : toQ p a b = false := by simp [toQ, hq1]
              have HR := Lib.hid (toRow_no HP2.out hq)
              go_wp2
              go_roundw
              case rel => exact ⟨b + 1, M, by omega, by go_num, hMl, HO5.out, HR.out, HU5.out, HT5.out, HB5.out⟩
              case measure => simp [intOf]; omega
            · have hq : toQ p a b = true := by simp [toQ, hq1, hab]
              have za := (HO5.out.at1 hMl (by omega)).1 a hlta
              rw [toRow_at HP2.out hlta] at za
              have hS := setOf_small (toQ p a) (show b ≤ 8 by omega)
              have HS := Lib.hid (setOf_or (j := b) (by omega) hq)
              have hor := or_shl (setOf (toQ p a) b) b (by omega) (by omega)
              have hS2 := setOf_small (toQ p a) (show b + 1 ≤ 8 by omega)
              rw [HS.out] at hor
              generalize hX : setOf (toQ p a) (b + 1) = X at *
              have HX := Lib.hid hX
              generalize setOf (toQ p a) b = S at *
              go_wp2_with fail
              have c1 := cell_regrown HU5.out.1.2
              have c2 := cell_regrown za
              clear za hX hq hq1
              refine wp_region_below_tail 9 (by kernel_rfl) (by kernel_rfl) ?_
              simp only [List.take_succ_cons, List.take_zero, List.drop_succ_cons, List.drop_zero]
              repeat (go_big_quiet_step (first | (with_reducible fail)))
              refine wpQuiet_nil ?_
              intro wq hbq0
              have hbq := Lib.hid hbq0
              clear hbq0
              clear c1 c2 hor
              have O2 := HO5.out.below hbq.out
              obtain ⟨hx2, hf2⟩ := O2.at1 hMl (by omega)
              have za := hx2 a hlta
              have fa := hf2 a
              have O3 := (O2.set_ hMl a (X : Int)).1
              have HO3 := Lib.hid O3
              have HU3 := Lib.hid ((HU5.out.below hbq.out).kept (setCell_grown _ ⟨gl, a, none⟩ (.int .i64 X)) (by simp; omega))
              have HT3 := Lib.hid ((HT5.out.below hbq.out).kept (setCell_grown _ ⟨gl, a, none⟩ (.int .i64 X)) (by have := HG.out; simp; omega))
              have HB3 := Lib.hid ((Below.then HB5.out hbq.out).setCell (p := ⟨gl, a, none⟩) (show w.heap.size ≤ gl by have := HG.out; omega) (.int .i64 X))
              clear hx2 hf2 O2 O3 HO5 HU5 HT5 HB5 hbq
              go_wp2
              go_roundw
              case rel => exact ⟨b + 1, M.set a X, by omega, by go_num, by simp [hMl], HO3.out, toRow_yes hMl HP2.out hlta HX.out.symm, HU3.out, HT3.out, HB3.out⟩
              case measure => simp [intOf]; omega
        · obtain rfl : n = b := by omega
          have HR := Lib.hid (toRow_next HP2.out)
          go_wp2
          go_roundw
          case rel => exact ⟨a + 1, M, by omega, by go_num, hMl, HO.out, HR.out, HU.out, HT.out, HB.out⟩
          case measure => simp [intOf]; omega
    · obtain rfl : n = a := by omega
      have HE := Lib.hid (toRow_end hNl HP.out)
      have u0 := HUa.out.1.1
      have u1 := HUa.out.1.2
      have v0 := HTa.out.1.1
      have v1 := HTa.out.1.2
      have f0 := HTa.out.2 0
      have f1 := HTa.out.2 1
      have hw2 := HUa.out.gt
      have hgg2 : gt ≠ w.heap.size := by have := HG.out; omega
      have hgg3 : w.heap.size < gl := by have := HG.out; omega
      have HOx := Lib.hid ((HOa.out.kept (setCell_grown _ ⟨w.heap.size, 0, none⟩ (.int .i64 n)) (own_ne (fun k hk => (HOa.out.lt k hk).1) hgg3)).kept (setCell_grown _ ⟨w.heap.size, 1, none⟩ (.slice (some ⟨gl, 0, none⟩) n n)) (own_ne (fun k hk => (HOa.out.lt k hk).1) hgg3))
      have HBx := Lib.hid ((HBa.out.setCell (p := ⟨w.heap.size, 0, none⟩) (Nat.le_refl _) (.int .i64 n)).setCell (p := ⟨w.heap.size, 1, none⟩) (Nat.le_refl _) (.slice (some ⟨gl, 0, none⟩) n n))
      have R0 : Hid (((wa.setCell ⟨w.heap.size, 0, none⟩ (.int .i64 n)).setCell ⟨w.heap.size, 1, none⟩ (.slice (some ⟨gl, 0, none⟩) n n)).cell? ⟨w.heap.size, 0, none⟩ = some (.int .i64 n)) := (World.cell?_setCell_other _ _ _ _ (by simp)).trans (World.cell?_setCell_same _ _ _ v0)
      have R1 : Hid (((wa.setCell ⟨w.heap.size, 0, none⟩ (.int .i64 n)).setCell ⟨w.heap.size, 1, none⟩ (.slice (some ⟨gl, 0, none⟩) n n)).cell? ⟨w.heap.size, 1, none⟩ = some (.slice (some ⟨gl, 0, none⟩) n n)) := World.cell?_setCell_same _ _ _ ((World.cell?_setCell_other _ _ _ _ (by simp)).trans v1)
      go_wp2
      have r0 := R0.out
      have r1 := R1.out
      refine bodyPost_ret (v := .agg #[.int .i64 n, .slice (some ⟨gl, 0, none⟩) n n]) (by simp only [results, Tryd.results50]; simp [go_sem, r0, r1]) rfl ⟨_, rfl, ?_, HBx.out⟩
      rw [← HE.out]
      exact HOx.out.mono (by omega)
end Go.Proofs.YtbkiedhaacapbaaDoor

namespace Go.Proofs.YtbkiedhaacapbaaDoor
set_option maxRecDepth 100000
/-- a sum over the first n -/
def sumN (f : Nat → Int) : Nat → Int
  | 0 => 0
  | n + 1 => sumN f n + f n
theorem sumN_congr {f g : Nat → Int} {n : Nat} (h : ∀ k, k < n → f k = g k) : sumN f n = sumN g n := by
  induction n with
  | zero => rfl
  | succ n ih => rw [sumN, sumN, ih fun k hk => h k (by omega), h n (by omega)]
theorem sumN_add (f g : Nat → Int) (n : Nat) : sumN (fun k => f k + g k) n = sumN f n + sumN g n := by
  induction n with
  | zero => rfl
  | succ n ih => rw [sumN, sumN, sumN, ih]; omega
theorem sumN_zero (n : Nat) : sumN (fun _ => 0) n = 0 := by
  induction n with
  | zero => rfl
  | succ n ih => rw [sumN, ih]; rfl
theorem sumN_const (c : Int) (n : Nat) : sumN (fun _ => c) n = n * c := by
  induction n with
  | zero => simp [sumN]
  | succ n ih => rw [sumN, ih]; push_cast; rw [Int.add_mul, Int.one_mul]
/-- one place alone -/
theorem sumN_one {f : Nat → Int} {n a : Nat} (ha : a < n) (h : ∀ k, k < n → k ≠ a → f k = 0) : sumN f n = f a := by
  induction n with
  | zero => omega
  | succ n ih =>
    rw [sumN]
    by_cases e : a = n
    · subst e
      rw [sumN_congr (g := fun _ => 0) fun k hk => h k (by omega) (by omega), sumN_zero]; omega
    · rw [ih (by omega) fun k hk => h k (by omega), h n (by omega) (by omega)]; omega
theorem sumN_two {f : Nat → Int} {n a b : Nat} (ha : a < n) (hb : b < n) (hab : a ≠ b) (h : ∀ k, k < n → k ≠ a → k ≠ b → f k = 0) : sumN f n = f a + f b := by
  have e : sumN f n = sumN (fun k => (if k = a then f a else 0) + (if k = b then f b else 0)) n := by
    refine sumN_congr fun k hk => ?_
    by_cases h1 : k = a
    · subst h1; rw [if_pos rfl, if_neg hab]; omega
    · by_cases h2 : k = b
      · subst h2; rw [if_neg h1, if_pos rfl]; omega
      · rw [if_neg h1, if_neg h2, h k hk h1 h2]; rfl
  rw [e, sumN_add, sumN_one ha (fun k _ hk => if_neg hk), sumN_one hb (fun k _ hk => if_neg hk), if_pos rfl, if_pos rfl]
theorem sumN_sub (f g : Nat → Int) (n : Nat) : sumN (fun k => f k - g k) n = sumN f n - sumN g n := by
  induction n with
  | zero => rfl
  | succ n ih => rw [sumN, sumN, sumN, ih]; omega
theorem sumN_zero' {f : Nat → Int} {n : Nat} (h : ∀ k, k < n → f k = 0) : sumN f n = 0 := (sumN_congr h).trans (sumN_zero n)
theorem sumN_mul (c : Int) (f : Nat → Int) (n : Nat) : sumN (fun k => c * f k) n = c * sumN f n := by
  induction n with
  | zero => simp [sumN]
  | succ n ih => rw [sumN, sumN, ih, Int.mul_add]
theorem sumN_swap (f : Nat → Nat → Int) (n m : Nat) : sumN (fun a => sumN (fun b => f a b) n) m = sumN (fun b => sumN (fun a => f a b) m) n := by
  induction m with
  | zero => simp only [sumN]; exact (sumN_zero n).symm
  | succ m ih => rw [sumN, ih, ← sumN_add]; exact sumN_congr fun k _ => rfl
theorem sumN_nonneg {f : Nat → Int} {n : Nat} (h : ∀ k, k < n → 0 ≤ f k) : 0 ≤ sumN f n := by
  induction n with
  | zero => exact Int.le_refl 0
  | succ n ih => have := ih fun k hk => h k (by omega); have := h n (by omega); rw [sumN]; omega
theorem sumN_le {f : Nat → Int} {n : Nat} {B : Int} (h : ∀ k, k < n → f k ≤ B) : sumN f n ≤ B * n := by
  induction n with
  | zero => simp [sumN]
  | succ n ih =>
    have h1 := ih fun k hk => h k (by omega)
    have h2 := h n (by omega)
    rw [sumN]; push_cast; rw [Int.mul_add]; omega
theorem list_sumN (l : List Int) : l.sum = sumN (fun k => l.getD k 0) l.length := by
  induction l with
  | nil => rfl
  | cons x l ih =>
    have : ∀ n, sumN (fun k => (x :: l).getD k 0) (n + 1) = x + sumN (fun k => l.getD k 0) n := fun n => by
      induction n with
      | zero => simp [sumN]
      | succ n ihn => rw [sumN, ihn, sumN]; simp; omega
    rw [List.sum_cons, ih, List.length_cons, this]
theorem map_sumN (f : Nat → Int) (n : Nat) : ((List.range n).map f).sum = sumN f n := by
  induction n with
  | zero => rfl
  | succ n ih => rw [List.range_succ, List.map_append, List.sum_append, ih, sumN]; simp
end Go.Proofs.YtbkiedhaacapbaaDoor

namespace Go.Proofs.YtbkiedhaacapbaaDoor
open Go.RowKit

set_option maxHeartbeats 400000 in
theorem allWithin1_any (x lo hi : Int) (a b : Addr) (w : World) (ha : w.cell? a = some (.int .i64 lo)) (hb : w.cell? b = some (.int .i64 hi)) :
    Calls Tryd.prog 98 #[.int .i64 x, .pointer (some a), .pointer (some b)] w fun e w' => e = .returned (.bool (!inB x lo hi)) ∧ w = w' := by
  go_enter Tryd.func98, Tryd.ntmps98
  go_wp2_with (go_at_call 47; refine (within_any _ _ _ _).mono ?_; rintro e w1 ⟨rfl, rfl⟩)
  go_ret
  exact ⟨rfl, rfl⟩
theorem enters_allWithin1 : Enters 98 := fun _ _ => by kernel_rfl

def allB (xs : List Int) (lo hi : Int) : Bool := xs.all fun x => inB x lo hi
theorem allB_any (xs : List Int) (lo hi : Int) : (!(xs.any fun x => !inB x lo hi)) = allB xs lo hi := by
  unfold allB
  rw [List.all_eq_not_any_not]
set_option maxHeartbeats 400000 in
theorem allWithin_any (v : Value) (xs : List Int) (lo hi : Int) (w : World) (h : Rd w v xs) :
    Calls Tryd.prog 73 #[v, .int .i64 lo, .int .i64 hi] w fun e w' => e = .returned (.bool (allB xs lo hi)) ∧ Below w.heap.size w w' := by
  have HR := Lib.hid h
  clear h
  go_enter Tryd.func73, Tryd.ntmps73
  go_wp2_with fail
  have hf : ∀ x ∈ xs, ∀ w', Below ((w.alloc (.cells #[.int .i64 lo] 3)).alloc (.cells #[.int .i64 hi] 3)).heap.size ((w.alloc (.cells #[.int .i64 lo] 3)).alloc (.cells #[.int .i64 hi] 3)) w' →
      Calls Tryd.prog 98 (#[.int .i64 x] ++ #[.pointer (some ⟨w.heap.size, 0, none⟩), .pointer (some ⟨w.heap.size + 1, 0, none⟩)]) w' fun e w'' => e = .returned (.bool (!inB x lo hi)) ∧ Below w'.heap.size w' w'' := by
    intro x _ w' hb
    refine (allWithin1_any x lo hi _ _ w' ?_ ?_).mono ?_
    · rw [hb.cell (by simp; try omega)]; simp
    · rw [hb.cell (by simp; try omega)]; simp
    · rintro e w1 ⟨rfl, rfl⟩
      exact ⟨rfl, Below.refl _ _⟩
  refine (containsFunc_any _ _ enters_allWithin1 v xs (fun x => !inB x lo hi) _ ((HR.out.alloc _).alloc _) hf).mono ?_
  rintro e w1 ⟨rfl, hb⟩
  have hb1 : Below w.heap.size w w1 := Below.then (((Below.refl _ _).alloc (Nat.le_refl _) _).alloc (by simp) _) (hb.mono (by simp))
  have HB := Lib.hid hb1
  clear hb hb1 hf
  go_wp2_with fail
  go_ret
  exact ⟨ret_bool (allB_any xs lo hi), HB.out⟩
end Go.Proofs.YtbkiedhaacapbaaDoor

namespace Go.Proofs.YtbkiedhaacapbaaDoor
open Go.RowKit Go.Sort

/-- digit number b of x -/
def bitI (x : Int) (b : Nat) : Bool := decide (x / 2 ^ b % 2 = 1)
theorem bit_walk (x : Int) (b : Nat) : (bits BinOp.and IntKind.i64 (x / 2 ^ b) 1 == 1) = bitI x b := by
  rw [i64_and_one, bitI, Bool.eq_iff_iff]; simp
set_option maxHeartbeats 400000 in
theorem has_any (s : Int) (sl : Value) (a : Int) (w : World) (hs : -1000 ≤ s ∧ s ≤ 1000) :
    Calls Tryd.prog 48 #[.agg #[.int .i64 s, sl], .int .i64 a] w fun e w' => e = .returned (.bool (inB a 0 (s - 1))) ∧ Below w.heap.size w w' := by
  go_enter Tryd.func48, Tryd.ntmps48
  go_wp2_with (go_at_call 47; refine (within_any _ _ _ _).mono ?_; rintro e w1 ⟨rfl, rfl⟩)
  go_ret
  exact ⟨rfl, below_alloc1 _ _⟩
set_option maxHeartbeats 400000 in
theorem beats_any (s : Int) (sl : Value) (xs : List Int) (a b : Int) (w : World) (h : Rd w sl xs) (ha : 0 ≤ a) (ha2 : a < xs.length) (hb : 0 ≤ b) (hb2 : b ≤ 63) :
    Calls Tryd.prog 49 #[.agg #[.int .i64 s, sl], .int .i64 a, .int .i64 b] w fun e w' => e = .returned (.bool (bitI (xs.getD a.toNat 0) b.toNat)) ∧ Below w.heap.size w w' := by
  obtain ⟨A, c, rfl, hl1, hm1, hc1⟩ := h
  unfold maxLen at hm1
  obtain ⟨a, rfl⟩ := Int.eq_ofNat_of_zero_le ha
  obtain ⟨b, rfl⟩ := Int.eq_ofNat_of_zero_le hb
  obtain ⟨g, off, rfl, hg, hx⟩ := hc1 (by omega)
  have hxa := hx a (by omega)
  have hxa' : (w.alloc (.cells #[.int .i64 s, .slice (some ⟨g, off, none⟩) xs.length c] 25)).cell? ⟨g, off + a, none⟩ = some (.int .i64 (xs.getD a 0)) := by
    rw [World.cell?_alloc_lt _ _ _ (by exact hg)]; exact hxa
  generalize hn : xs.length = n at *
  have HN := Lib.hid hn
  clear hx hxa hn
  go_enter Tryd.func49, Tryd.ntmps49
  go_wp2
  go_ret
  refine ⟨ret_bool ?_, below_alloc1 _ _⟩
  rw [bit_walk]
  simp
end Go.Proofs.YtbkiedhaacapbaaDoor

namespace Go.Proofs.YtbkiedhaacapbaaDoor
open Go.RowKit Go.Sort

/-- what is asked of player a: no win over itself; against each b before it just one of the two wins -/
def okAt (xs : List Int) (a : Nat) : Prop := bitI (xs.getD a 0) a = false ∧ ∀ b, b < a → bitI (xs.getD a 0) b ≠ bitI (xs.getD b 0) a
def tourP (s : Int) (xs : List Int) : Prop := (1 ≤ s ∧ s ≤ 8) ∧ (xs.length : Int) = s ∧ (∀ x ∈ xs, 0 ≤ x ∧ x ≤ 2 ^ s.toNat - 1) ∧ ∀ a, a < xs.length → okAt xs a
noncomputable def tourB (s : Int) (xs : List Int) : Bool := @decide (tourP s xs) (Classical.propDecidable _)
theorem tourB_true {s : Int} {xs : List Int} : tourB s xs = true ↔ tourP s xs := by unfold tourB; simp
theorem tourB_false {s : Int} {xs : List Int} : tourB s xs = false ↔ ¬ tourP s xs := by rw [← tourB_true]; simp

theorem shl_i64 (s : Int) (h : 0 ≤ s ∧ s ≤ 61) : IntKind.i64.wrap (1 * 2 ^ s.toNat) = 2 ^ s.toNat := by
  rw [i64_shl_one _ (by omega)]; simp
theorem pow_small (s : Int) (h : 0 ≤ s ∧ s ≤ 8) : (1 : Int) ≤ 2 ^ s.toNat ∧ (2 : Int) ^ s.toNat ≤ 256 := by
  have h1 : 2 ^ s.toNat ≤ 2 ^ 8 := Nat.pow_le_pow_right (by decide) (by omega)
  have h2 : 0 < 2 ^ s.toNat := Nat.two_pow_pos _
  have h3 : ((2 : Int) ^ s.toNat) = ((2 ^ s.toNat : Nat) : Int) := by simp
  rw [h3]
  rw [show (2 : Nat) ^ 8 = 256 from rfl] at h1
  omega

theorem ok_hi (n : Nat) (h : n ≤ 8) : wrap64 (wrap64 (2 ^ n) - 1) = 2 ^ n - 1 := by
  have h1 : 2 ^ n ≤ 2 ^ 8 := Nat.pow_le_pow_right (by decide) h
  have h3 : ((2 : Int) ^ n) = ((2 ^ n : Nat) : Int) := by simp
  rw [h3]
  rw [show (2 : Nat) ^ 8 = 256 from rfl] at h1
  have h2 : 0 < 2 ^ n := Nat.two_pow_pos _
  generalize 2 ^ n = p at *
  rw [IntWalk.wrap64_in (p : Int) (by omega), IntWalk.wrap64_in _ (by omega)]
set_option maxHeartbeats 2000000 in
theorem implTourOk (s : Int) (sl : Value) (xs : List Int) (w : World) (h : Rd w sl xs) :
    Calls Tryd.prog 37 #[.agg #[.int .i64 s, sl]] w fun e w' => e = .returned (.bool (tourB s xs)) ∧ Below w.heap.size w w' := by
  have HR := Lib.hid h
  obtain ⟨A, c, rfl, hl1, hm1, hc1⟩ := h
  clear hc1
  unfold maxLen at hm1
  rcases hS : inB s 1 8 with _ | _
  · go_enter Tryd.func37, Tryd.ntmps37
    go_wp2_with fail
    have b0 := below_alloc1 w (.cells #[.int .i64 s, .slice A xs.length c] 25)
    have x0 := TBox.new w s (.slice A xs.length c) 25
    generalize w.alloc (.cells #[.int .i64 s, .slice A xs.length c] 25) = W at *
    have k1 := quiet_below (w := W) (fun W _ => of_same (within_any s 1 8 W))
    have y0 := cell_regrown x0.1
    have y1 := cell_regrown x0.2
    have HB := Lib.hid b0
    clear x0 b0
    refine wp_region_below (by kernel_rfl) (by kernel_rfl) ?_
    repeat (go_big_quiet_step (first | (with_reducible exact k1 _ _)))
    refine wpQuiet_nil ?_
    intro w1 hb1
    have HB1 := Lib.hid (Below.then HB.out hb1)
    clear hb1 k1 y0 y1 HB
    go_wp2
    go_ret
    refine ⟨ret_bool (tourB_false.2 fun hp => ?_).symm, HB1.out⟩
    have := inB_false.1 hS
    exact this hp.1
  · have hs := inB_true.1 hS
    generalize hn : xs.length = n at *
    have HN := Lib.hid hn
    clear hn
    by_cases hl : (n : Int) = s
    · subst hl
      have hne : ((n : Int) != (n : Int)) = false := by simp
      have HV := Lib.hid (ok_hi n (by omega))
      rcases hA : allB xs 0 (wrap64 (wrap64 (2 ^ n) - 1)) with _ | _
      all_goals
        go_enter Tryd.func37, Tryd.ntmps37
        go_wp2_with fail
        have b0 := below_alloc1 w (.cells #[.int .i64 n, .slice A n c] 25)
        have x0 := TBox.new w n (.slice A n c) 25
        generalize w.alloc (.cells #[.int .i64 n, .slice A n c] 25) = W at *
        have k1 := quiet_below (w := W) (fun W _ => of_same (within_any n 1 8 W))
        rw [hS] at k1
        have k2 := quiet_below (w := W) (fun W' hb => allWithin_any (.slice A n c) xs 0 (wrap64 (wrap64 (2 ^ n) - 1)) W' ((HR.out.below b0).below hb))
        rw [hA] at k2
        have y0 := cell_regrown x0.1
        have y1 := cell_regrown x0.2
        have HB := Lib.hid b0
        have HX := Lib.hid x0
        clear x0 b0
        refine wp_region_below (by kernel_rfl) (by kernel_rfl) ?_
        repeat (go_big_quiet_step (first | (with_reducible exact k1 _ _) | (with_reducible exact k2 _ _)))
        refine wpQuiet_nil ?_
        intro w1 hb1
        have HX1 := Lib.hid (HX.out.below hb1)
        have HB1 := Lib.hid (Below.then HB.out hb1)
        clear hb1 k1 y0 y1 HB k2 HX
        have y0 := HX1.out.1
        have y1 := HX1.out.2
      · go_wp2
        go_ret
        refine ⟨ret_bool (tourB_false.2 fun hp => ?_).symm, HB1.out⟩
        rw [HV.out] at hA
        have := hp.2.2.1
        simp [allB] at hA
        obtain ⟨x, hx, hb⟩ := hA
        exact inB_false.1 hb (this x hx)
      · go_wp2
        have HA : Hid (∀ x ∈ xs, 0 ≤ x ∧ x ≤ 2 ^ n - 1) := by
          rw [HV.out] at hA
          simp [allB] at hA
          exact fun x hx => inB_true.1 (hA x hx)
        clear hA
        go_loopw [29] (fun i wr => ∃ a : Nat, a ≤ n ∧ i = .int .i64 a ∧ TBox wr w.heap.size n (.slice A n c) ∧ Below w.heap.size w wr ∧ Hid (∀ a', a' < a → okAt xs a')) (fun i _ => n - (intOf i).toNat)
        case atStart => exact ⟨0, Nat.zero_le _, rfl, HX1.out, HB1.out, fun a h => absurd h (by omega)⟩
        case round =>
          obtain ⟨a, ha, rfl, hx, hb, HP⟩ := hrel
          have HX := Lib.hid hx
          have HB := Lib.hid hb
          clear hx hb y0 y1 HX1 HB1
          by_cases hlt : a < n
          · go_wp2
            obtain ⟨wo, rfl⟩ : ∃ wo : World, wo = wr := ⟨_, rfl⟩
            go_loopw [33] (fun i wr => ∃ b : Nat, b ≤ a ∧ i = .int .i64 b ∧ TBox wr w.heap.size n (.slice A n c) ∧ Below w.heap.size w wr ∧ Hid (∀ b', b' < b → bitI (xs.getD a 0) b' ≠ bitI (xs.getD b' 0) a)) (fun i _ => a - (intOf i).toNat)
            case atStart => exact ⟨0, Nat.zero_le _, rfl, HX.out, HB.out, fun b h => absurd h (by omega)⟩
            case round =>
              obtain ⟨b, hb, rfl, hx, hbb, HQ⟩ := hrel
              have HX' := Lib.hid hx
              have HB' := Lib.hid hbb
              clear hx hbb HX HB
              by_cases hltb : b < a
              · go_wp2
                have y0 := cell_regrown HX'.out.1
                have y1 := cell_regrown HX'.out.2
                have kab : ∀ d os, Calls Tryd.prog 49 #[.agg #[.int .i64 n, .slice A n c], .int .i64 a, .int .i64 b] (grow (redrawn wr d) os) fun e w'' => e = .returned (.bool (bitI (xs.getD a 0) b)) ∧ ∃ p : Regrown, w'' = grow (redrawn wr p.d) p.os :=
                  quiet_below (fun W hW => beats_any n _ xs a b W ((HR.out.below HB'.out).below hW) (by omega) (by rw [HN.out]; omega) (by omega) (by omega))
                have kba : ∀ d os, Calls Tryd.prog 49 #[.agg #[.int .i64 n, .slice A n c], .int .i64 b, .int .i64 a] (grow (redrawn wr d) os) fun e w'' => e = .returned (.bool (bitI (xs.getD b 0) a)) ∧ ∃ p : Regrown, w'' = grow (redrawn wr p.d) p.os :=
                  quiet_below (fun W hW => beats_any n _ xs b a W ((HR.out.below HB'.out).below hW) (by omega) (by rw [HN.out]; omega) (by omega) (by omega))
                refine wp_region_below (by kernel_rfl) (by kernel_rfl) ?_
                repeat (go_big_quiet_step (first | (with_reducible exact kab _ _) | (with_reducible exact kba _ _)))
                refine wpQuiet_nil ?_
                intro w2 hb2
                have HX2 := Lib.hid (HX'.out.below hb2)
                have HB2 := Lib.hid (Below.then HB'.out hb2)
                clear hb2 y0 y1 kab kba HX' HB'
                go_wp2
                · have hq : (bitI (xs[a]?.getD 0) b == bitI (xs[b]?.getD 0) a) = true := by assumption
                  go_ret
                  refine ⟨ret_bool (tourB_false.2 fun hp => ?_).symm, HB2.out⟩
                  have := (hp.2.2.2 a (by rw [HN.out]; exact hlt)).2 b hltb
                  simp at hq this
                  exact this hq
                · have hq : (bitI (xs[a]?.getD 0) b == bitI (xs[b]?.getD 0) a) = false := by assumption
                  go_roundw
                  case rel =>
                    refine ⟨b + 1, by omega, by go_num, HX2.out, HB2.out, fun b' hb' => ?_⟩
                    by_cases h : b' < b
                    · exact HQ.out b' h
                    · obtain rfl : b' = b := by omega
                      simpa using hq
                  case measure => simp [intOf]; omega
              · have hge : ¬ ((b : Int) < (a : Int)) := by omega
                have y0 := HX'.out.1
                have y1 := HX'.out.2
                have kaa : ∀ W, Below wr.heap.size wr W → Calls Tryd.prog 49 #[.agg #[.int .i64 n, .slice A n c], .int .i64 a, .int .i64 a] W fun e w'' => e = .returned (.bool (bitI (xs.getD a 0) a)) ∧ Below W.heap.size W w'' :=
                  fun W hW => beats_any n _ xs a a W ((HR.out.below HB'.out).below hW) (by omega) (by rw [HN.out]; omega) (by omega) (by omega)
                have KAA := Lib.hid (kaa _ (Below.refl _ _))
                clear kaa
                go_wp2_with (go_at_call 49; refine KAA.out.mono ?_; rintro e w2 ⟨rfl, hb2⟩; have HX2 := Lib.hid (HX'.out.below hb2); have HB2 := Lib.hid (Below.then HB'.out hb2); clear hb2)
                · have hq : bitI (xs[a]?.getD 0) a = true := by assumption
                  go_ret
                  refine ⟨ret_bool (tourB_false.2 fun hp => ?_).symm, HB2.out⟩
                  have := (hp.2.2.2 a (by rw [HN.out]; exact hlt)).1
                  simp [hq] at this
                · have hq : bitI (xs[a]?.getD 0) a = false := by assumption
                  go_roundw
                  case rel =>
                    refine ⟨a + 1, by omega, by go_num, HX2.out, HB2.out, fun a' ha' => ?_⟩
                    by_cases h : a' < a
                    · exact HP.out a' h
                    · obtain rfl : a' = a := by omega
                      exact ⟨by simpa using hq, fun b' hb' => HQ.out b' (by omega)⟩
                  case measure => simp [intOf]; omega
          · obtain rfl : a = n := by omega
            go_wp2
            go_ret
            refine ⟨ret_bool (tourB_true.2 ⟨hs, by rw [HN.out], HA.out, by rw [HN.out]; exact HP.out⟩).symm, HB.out⟩
    · have hne : ((n : Int) != s) = true := by simpa using hl
      have HL := Lib.hid hl
      clear hl
      go_enter Tryd.func37, Tryd.ntmps37
      go_wp2_with fail
      have b0 := below_alloc1 w (.cells #[.int .i64 s, .slice A n c] 25)
      have x0 := TBox.new w s (.slice A n c) 25
      generalize w.alloc (.cells #[.int .i64 s, .slice A n c] 25) = W at *
      have k1 := quiet_below (w := W) (fun W _ => of_same (within_any s 1 8 W))
      have y0 := cell_regrown x0.1
      have y1 := cell_regrown x0.2
      have HB := Lib.hid b0
      clear x0 b0
      refine wp_region_below (by kernel_rfl) (by kernel_rfl) ?_
      repeat (go_big_quiet_step (first | (with_reducible exact k1 _ _)))
      refine wpQuiet_nil ?_
      intro w1 hb1
      have HB1 := Lib.hid (Below.then HB.out hb1)
      clear hb1 k1 y0 y1 HB
      go_wp2
      go_ret
      refine ⟨ret_bool (tourB_false.2 fun hp => ?_).symm, HB1.out⟩
      exact HL.out (by rw [← hp.2.1, HN.out])
end Go.Proofs.YtbkiedhaacapbaaDoor

namespace Go.Proofs.YtbkiedhaacapbaaDoor
open Go.RowKit Go.Sort

theorem bit_eq_walk (x y : Int) (b a : Nat) : (bits BinOp.and IntKind.i64 (x / 2 ^ b) 1 == bits BinOp.and IntKind.i64 (y / 2 ^ a) 1) = (bitI x b == bitI y a) := by
  rw [i64_and_one, i64_and_one, bitI, bitI, Bool.eq_iff_iff]
  simp only [beq_iff_eq, decide_eq_decide]
  omega

end Go.Proofs.YtbkiedhaacapbaaDoor

