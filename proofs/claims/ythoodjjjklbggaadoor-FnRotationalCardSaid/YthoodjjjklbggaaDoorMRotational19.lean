/- Texts put together: AllT, RngB, KdW, OfBits. -/
import Derived.Test.YthoodjjjklbggaaDoorMRotational15
import Derived.Test.YthoodjjjklbggaaDoorMRotational16
import Derived.Test.YthoodjjjklbggaaDoorMRotational05
import Derived.Test.YthoodjjjklbggaaDoorMRotational02
import Derived.Test.YthoodjjjklbggaaDoorMRotational01
import Derived.Test.YthoodjjjklbggaaDoorMRotational18
import Derived.Test.YthoodjjjklbggaaDoorMRotational17
import Derived.Deep.RegionHeld3
import Derived.Carry
import Derived.Test.YthoodjjjklbggaaDoorMRotational04
namespace Go.Proofs.YthoodjjjklbggaaDoor
open Go.RowKit Go.Sort
set_option maxRecDepth 100000
attribute [local go_sem] Oper.semAt_some
theorem allTours_any (n : Int) (w : World) :
    Calls Tryd.prog 51 #[.int .i64 n] w fun e w' => e = .returned (.func (.func 76) #[] #[.pointer (some ⟨w.heap.size, 0, none⟩)]) ∧ w' = w.alloc (.cells #[.int .i64 n] 3) := by
  go_enter Tryd.func51, Tryd.ntmps51
  go_wp2
  go_ret
  exact ⟨rfl, rfl⟩
theorem at1_any (a b : Nat) (W : World) :
    Calls Tryd.prog 77 #[.int .i64 a, .int .i64 b] W fun e w' => e = .returned (.bool (decide (b < a))) ∧ Below W.heap.size W w' := by
  go_enter Tryd.func77, Tryd.ntmps77
  go_wp2
  go_ret
  exact ⟨ret_bool (by simp), Below.refl _ _⟩
theorem enters_at1 : Enters 77 := fun _ _ => by kernel_rfl
/-- the tour that is made, in its box -/
structure AlT (W0 W : World) (nb bt n : Nat) (xs : List Int) : Prop where
  tour : ∃ sl, BoxF W bt n sl ∧ Own W W0.heap.size sl xs ∧ ∀ k, sl.ownBlock = some k → k ≠ bt
  num : W.cell? ⟨nb, 0, none⟩ = some (.int .i64 n)
theorem AlT.below {W0 W W' : World} {nb bt n : Nat} {xs : List Int} (h : AlT W0 W nb bt n xs) (hb : Below W.heap.size W W') : AlT W0 W' nb bt n xs := by
  obtain ⟨sl, h1, h2, h3⟩ := h.tour
  exact ⟨⟨sl, h1.below hb, h2.below hb, h3⟩, (hb.cell (World.block_lt_of_cell? _ _ h.num)).trans h.num⟩
theorem AlT.put {W0 W : World} {nb bt n : Nat} {xs ys : List Int} {sl : Value} (h : AlT W0 W nb bt n xs) (hnb : nb ≠ bt) (ho : Own W W0.heap.size sl ys) (hne : ∀ k, sl.ownBlock = some k → k ≠ bt) :
    AlT W0 ((W.setCell ⟨bt, 0, none⟩ (.int .i64 n)).setCell ⟨bt, 1, none⟩ sl) nb bt n ys := by
  obtain ⟨sl0, h1, h2, h3⟩ := h.tour
  have g1 := setCell_grown W ⟨bt, 0, none⟩ (.int .i64 n)
  have g2 := setCell_grown (W.setCell ⟨bt, 0, none⟩ (.int .i64 n)) ⟨bt, 1, none⟩ sl
  have hn : sl.ownBlock = none ∨ sl.ownBlock ≠ some bt := by
    rcases q : sl.ownBlock with _ | k
    · exact .inl rfl
    · right; intro e; injection e with e; exact hne k q e
  exact ⟨⟨sl, h1.set01 n sl, (ho.kept g1 hn).kept g2 hn, hne⟩, (World.cell?_setCell_other _ _ _ _ (by first | (simp; done) | (simp; exact fun e => hnb e.symm) | (simp; exact hnb))).trans ((World.cell?_setCell_other _ _ _ _ (by first | (simp; done) | (simp; exact fun e => hnb e.symm) | (simp; exact hnb))).trans h.num)⟩
set_option maxHeartbeats 8000000 in
/-- the iterator gives the tours of all codes, in order -/
theorem allTours_all {n : Nat} (h1 : 1 ≤ n) (h5 : n ≤ 5) (nb cb : Nat) (w0 : World) (hnb : nb < w0.heap.size) (hcb : cb < w0.heap.size) (hne : cb ≠ nb) (hc : w0.cell? ⟨nb, 0, none⟩ = some (.int .i64 n)) :
    SeqAll Tryd.prog 76 #[.pointer (some ⟨nb, 0, none⟩)] cb (fun W (x : Nat) v => ∃ sl, v = .agg #[.int .i64 n, sl] ∧ Rd W sl (allL n x)) (List.range (2 ^ (n * (n - 1) / 2))) w0 := by
  intro l J W hB hJ hY h0
  have hsz := hB.size
  have hcell := (hB.cell (p := ⟨nb, 0, none⟩) hnb).trans hc
  have HJ := Lib.hid hJ
  have HY := Lib.hid hY
  have HJ0 := Lib.hid h0
  have HC0 := Lib.hid hcell
  clear hJ hY h0 hcell hc
  have hM : n * (n - 1) ≤ 20 := by
    have : n * (n - 1) ≤ 5 * 4 := Nat.mul_le_mul h5 (by omega)
    omega
  obtain ⟨M, hMe⟩ : ∃ M, M = n * (n - 1) := ⟨_, rfl⟩
  obtain ⟨p, hpe⟩ : ∃ p, p = M / 2 := ⟨_, rfl⟩
  rw [← hMe, ← hpe]
  rw [← hMe] at hM
  have hp10 : p ≤ 10 := by omega
  obtain ⟨Q, hQ⟩ : ∃ Q, Q = 2 ^ p := ⟨_, rfl⟩
  have hQ1 : Q ≤ 1024 := by rw [hQ]; exact Nat.pow_le_pow_right (n := 2) (j := 10) (by decide) hp10
  have f1 : IntKind.i64.wrap ((n : Int) - 1) = ((n - 1 : Nat) : Int) := by rw [IntWalk.i64_in _ (by omega)]; omega
  have hmm : (n : Int) * ((n - 1 : Nat) : Int) = (M : Int) := by rw [hMe]; simp
  have f2 : IntKind.i64.wrap ((n : Int) * ((n - 1 : Nat) : Int)) = (M : Int) := by rw [hmm]; exact IntWalk.i64_in _ (by omega)
  have f3 : Int.tdiv (M : Int) 2 = (p : Int) := by rw [Int.tdiv_eq_ediv_of_nonneg (by omega)]; omega
  have f3' : (M : Int) / 2 = (p : Int) := by omega
  have f4 : wrap64 (2 ^ p) = (Q : Int) := by rw [hQ, shl_nat p (by omega)]
  have f5 : IntKind.i64.wrap (2 ^ p) = (Q : Int) := by have := i64_shl_one p (by omega); rw [Int.one_mul] at this; rw [hQ]; exact this
  have HQP : Hid (Q = 2 ^ (n * (n - 1) / 2)) := Lib.hid (by rw [hQ, hpe, hMe])
  rw [← hQ]
  clear hMe hpe hQ
  have y0 := HC0.out
  refine callsIn_wide.1 (callsIn_of_wp (n := 0) Tryd.func76 rfl trivial ?_ rfl)
  simp only [Tryd.ntmps76, List.size_toArray, List.length_cons, List.length_nil, Nat.reduceAdd, Nat.reduceSub, Array.replicate_succ, Array.replicate_zero, List.push_toArray, List.append_toArray, List.nil_append, List.cons_append]
  gi_wp2
  clear y0 f1 f2 f3 f3' f4 f5 hmm
  gi_loopw [14] (fun t14 wr => ∃ c : Nat, c ≤ Q ∧ t14 = .int .i64 c ∧ Hid (J (List.range c) wr) ∧ W.heap.size ≤ wr.heap.size ∧ Hid (wr.cell? ⟨nb, 0, none⟩ = some (.int .i64 n))) (fun t14 _ => Q - (intOf t14).toNat)
  case atStart => exact ⟨0, by omega, rfl, HJ0, Nat.le_refl _, HC0⟩
  case round =>
    obtain ⟨wo, rfl⟩ : ∃ x, x = wr := ⟨_, rfl⟩
    obtain ⟨c, hcQ, rfl, HJc, hWo, HCc⟩ := hrel
    clear HJ0 HC0
    by_cases hlt : c < Q
    · have y0 := HCc.out
      gi_wp2_with fail
      refine ⟨trivial, rfl, ?_⟩
      refine (callsIn_wide.2 (tourOf_any n h1 (by omega) 77 #[] enters_at1 (fun a b => decide (b < a)) wo (fun a b ha hb W' _ => at1_any a b W'))).mono ?_
      rintro e w1 ⟨sl1, rfl, ho1, hb1⟩
      obtain ⟨Y1, cy1, rfl, -, -, -⟩ := ho1.form
      rw [toL_len] at ho1 ⊢
      have y1 := (hb1.cell (World.block_lt_of_cell? _ _ HCc.out)).trans HCc.out
      have y2 := ((below_alloc1 w1 (.cells #[.int .i64 n, .slice Y1 n cy1] 25)).cell (World.block_lt_of_cell? _ _ y1)).trans y1
      have HT1 : Hid (AlT W (w1.alloc (.cells #[.int .i64 n, .slice Y1 n cy1] 25)) nb w1.heap.size n (al0 n)) := Lib.hid ⟨⟨.slice Y1 n cy1, BoxF.new w1 n _ 25, (ho1.mono hWo).below (below_alloc1 _ _), fun k hk => by have := (ho1.lt k hk).2; omega⟩, y2⟩
      have HJ1 : Hid (J (List.range c) (w1.alloc (.cells #[.int .i64 n, .slice Y1 n cy1] 25))) := Lib.hid (HJ.out _ _ _ none HJc.out (grown_below (Below.then hb1 (below_alloc1 _ _)) none) (fun r e => by cases e))
      have hnbt : nb ≠ w1.heap.size := by have := hb1.size; omega
      have hWbt : W.heap.size ≤ w1.heap.size := by have := hb1.size; omega
      clear ho1 hb1 HJc HCc y0 y1
      gi_wp2
      generalize w1.alloc (.cells #[.int .i64 n, .slice Y1 n cy1] 25) = w2 at *
      generalize w1.heap.size = bt at *
      clear y2
      gi_loopw [4, 21] (fun t4 t21 wr => ∃ (a left : Nat) (ys : List Int), a ≤ n ∧ t21 = .int .i64 a ∧ t4 = .int .i64 left ∧ left ≤ Q ∧ Hid (tourP n ys) ∧ Hid (alOut n (n - a) a (left, ys) = alOut n n 0 (c, al0 n)) ∧ Hid (AlT W wr nb bt n ys) ∧ Hid (J (List.range c) wr)) (fun _ t21 _ => n - (intOf t21).toNat)
      case atStart => exact ⟨0, c, al0 n, by omega, rfl, rfl, hcQ, Lib.hid (al0_tour h1 (by omega)), Lib.hid rfl, HT1, HJ1⟩
      case round =>
        obtain ⟨wi, rfl⟩ : ∃ x, x = wr := ⟨_, rfl⟩
        obtain ⟨a, left, ys, ha, rfl, rfl, hleft, HP, HE, HT, HJi⟩ := hrel
        clear HT1 HJ1
        by_cases hlta : a < n
        · as_aux_lemma =>
            have y0 := HT.out.num
            have HE1 : Hid (alOut n (n - (a + 1)) (a + 1) (alIn a (n - (a + 1)) (a + 1) (left, ys)) = alOut n n 0 (c, al0 n)) := Lib.hid (by
              rw [← HE.out, show n - a = (n - (a + 1)) + 1 by omega]; rfl)
            clear HE
            gi_wp2
            clear y0
            gi_loopw [4, 7] (fun t4 t7 wr => ∃ (b left2 : Nat) (zs : List Int), a < b ∧ b ≤ n ∧ t7 = .int .i64 b ∧ t4 = .int .i64 left2 ∧ left2 ≤ Q ∧ Hid (tourP n zs) ∧ Hid (alOut n (n - (a + 1)) (a + 1) (alIn a (n - b) b (left2, zs)) = alOut n n 0 (c, al0 n)) ∧ Hid (AlT W wr nb bt n zs) ∧ Hid (J (List.range c) wr)) (fun _ t7 _ => n - (intOf t7).toNat)
            case atStart => exact ⟨a + 1, left, ys, by omega, by omega, by go_num, rfl, hleft, HP, HE1, HT, HJi⟩
            case round =>
              obtain ⟨wk, rfl⟩ : ∃ x, x = wr := ⟨_, rfl⟩
              obtain ⟨b, left2, zs, hab, hb, rfl, rfl, hl2, HP2, HE2, HT2, HJ2⟩ := hrel
              clear HP HE1 HT HJi
              by_cases hltb : b < n
              · have y0 := HT2.out.num
                have hand := i64_and_one (left2 : Int)
                have HE3 : Hid (alOut n (n - (a + 1)) (a + 1) (alIn a (n - (b + 1)) (b + 1) (alStep (left2, zs) a b)) = alOut n n 0 (c, al0 n)) := Lib.hid (by
                  rw [← HE2.out, show n - b = (n - (b + 1)) + 1 by omega]; rfl)
                obtain ⟨h2, hh2⟩ : ∃ h, h = left2 / 2 := ⟨_, rfl⟩
                have hdiv : ((left2 : Int) / 2) = (h2 : Int) := by omega
                have hl3 : h2 ≤ Q := by omega
                clear HE2
                rcases Nat.mod_two_eq_zero_or_one left2 with hm | hm
                · have HE4 : Hid (alOut n (n - (a + 1)) (a + 1) (alIn a (n - (b + 1)) (b + 1) (h2, zs)) = alOut n n 0 (c, al0 n)) := Lib.hid (by
                    rw [← HE3.out]; unfold alStep; simp [hm, hh2])
                  have hmi : (left2 : Int) % 2 = 0 := by omega
                  rw [hmi] at hand
                  clear HE3 hm hh2
                  gi_wp2
                  go_roundw
                  case rel => exact ⟨b + 1, h2, zs, by omega, by omega, by go_num, rfl, hl3, HP2, HE4, HT2, HJ2⟩
                  case measure => simp [intOf]; omega
                · have HE4 : Hid (alOut n (n - (a + 1)) (a + 1) (alIn a (n - (b + 1)) (b + 1) (h2, flipL zs a b)) = alOut n n 0 (c, al0 n)) := Lib.hid (by
                    rw [← HE3.out]; unfold alStep; simp [hm, hh2])
                  have hmi : (left2 : Int) % 2 = 1 := by omega
                  rw [hmi] at hand
                  clear HE3 hm hh2
                  obtain ⟨sl, hx, ho, hne⟩ := HT2.out.tour
                  have HLZ := Lib.hid (show zs.length = n by have := HP2.out.2.1; omega)
                  obtain ⟨Y, cy, rfl, -, -, -⟩ := ho.form
                  rw [HLZ.out] at hx ho hne
                  have x0 := hx.1.1
                  have x1 := hx.1.2
                  have HRD := Lib.hid ho.rd
                  have HP3 := Lib.hid (flip_tour HP2.out (a := a) (b := b) (by rw [HLZ.out]; exact hlta) (by rw [HLZ.out]; exact hltb) (by omega))
                  have hsW := ho
                  clear hx ho hne
                  gi_wp2_with fail
                  refine ⟨trivial, rfl, ?_⟩
                  refine (callsIn_wide.2 (flipped_any n (.slice Y n cy) zs a b wk HRD.out (by rw [HLZ.out]; omega) (by rw [HLZ.out]; exact hlta) (by rw [HLZ.out]; exact hltb))).mono ?_
                  rintro e w3 ⟨sl3, rfl, ho3, hb3⟩
                  obtain ⟨Y3, cy3, rfl, -, -, -⟩ := ho3.form
                  have HT3 := Lib.hid (HT2.out.below hb3)
                  have HJ3 := Lib.hid (HJ.out _ _ _ none HJ2.out (grown_below hb3 none) (fun r e => by cases e))
                  obtain ⟨sl9, hx9, -, -⟩ := HT3.out.tour
                  have v0 := hx9.1.1
                  have v1 := hx9.1.2
                  have f0 := hx9.2 0
                  have f1 := hx9.2 1
                  have hbtk : bt < wk.heap.size := World.block_lt_of_cell? _ _ x0
                  have hWk : W.heap.size ≤ wk.heap.size := by omega
                  have HT4 := Lib.hid (HT3.out.put hnbt (ho3.mono hWk) (fun k hk => by have := (ho3.lt k hk).1; omega))
                  have HJ4 := Lib.hid (HJ.out _ _ _ (some bt) (HJ.out _ _ _ (some bt) HJ3.out (setCell_grown w3 ⟨bt, 0, none⟩ (.int .i64 n)) (fun r e => by injection e with e; omega)) (setCell_grown (w3.setCell ⟨bt, 0, none⟩ (.int .i64 n)) ⟨bt, 1, none⟩ (.slice Y3 (flipL zs a b).length cy3)) (fun r e => by injection e with e; omega))
                  clear ho3 hb3 hx9 HT2 HJ2 HT3 HJ3 x0 x1 y0 HRD HP2 hsW
                  gi_wp2
                  go_roundw
                  case rel => exact ⟨b + 1, h2, _, by omega, by omega, by go_num, rfl, hl3, HP3, HE4, HT4, HJ4⟩
                  case measure => simp [intOf]; omega
              · obtain rfl : b = n := by omega
                have y0 := HT2.out.num
                have HE3 : Hid (alOut b (b - (a + 1)) (a + 1) (left2, zs) = alOut b b 0 (c, al0 b)) := Lib.hid (by
                  rw [← HE2.out, Nat.sub_self]; rfl)
                clear HE2
                gi_wp2
                go_roundw
                case rel => exact ⟨a + 1, left2, zs, by omega, by go_num, rfl, hl2, HP2, HE3, HT2, HJ2⟩
                case measure => simp [intOf]; omega
        · as_aux_lemma =>
            obtain rfl : a = n := by omega
            have hys : ys = allL a c := by
              have := congrArg Prod.snd HE.out
              rw [Nat.sub_self] at this
              exact this
            obtain ⟨sl, hx, ho, hne⟩ := HT.out.tour
            have hlz : ys.length = a := by have := HP.out.2.1; omega
            obtain ⟨Y, cy, rfl, -, -, -⟩ := ho.form
            rw [hlz] at hx ho hne
            have x0 := hx.1.1
            have x1 := hx.1.2
            have y0 := HT.out.num
            have hbti : bt < wi.heap.size := World.block_lt_of_cell? _ _ x0
            obtain ⟨fn, tmps, assign, body, hy, hR⟩ := YieldAt.any (m' := 0) (HY.out (List.range c) c (.agg #[.int .i64 a, .slice Y a cy]) wi HJi.out ⟨_, rfl, by rw [← hys]; exact ho.rd⟩ (List.mem_range.2 (by rw [← HQP.out]; exact hlt)))
            clear hx ho hne HE hys HP
            gi_wp2_with (refine ⟨rfl, ?_⟩; refine hR.mono ?_; clear hR; rintro e W1 ⟨rfl, hj1, hk1⟩)
            go_roundw
            case rel => exact ⟨c + 1, by omega, by go_num, Lib.hid (by rw [List.range_succ]; exact hj1), by have := hk1.size; omega, Lib.hid (hk1.cell (p := ⟨nb, 0, none⟩) (Ne.symm hne) y0)⟩
            case measure => simp [intOf]; omega
    · obtain rfl : c = Q := by omega
      gi_wp2
      go_end0
      exact ⟨⟨_, rfl⟩, HJc.out⟩
end Go.Proofs.YthoodjjjklbggaaDoor

namespace Go.Proofs.YthoodjjjklbggaaDoor
open Go.RowKit Go.Sort
set_option maxRecDepth 100000
theorem wp_rangeFunc_allB {P : Program} {β : Type} {g : Operand} {ps : Array Tmp} {assign body : Code} {Q : Exit → Act → World → Prop} {a : Act} {w : World} {gf : Nat} {lb : Array Value} (hg : a.eval g = .func (.func gf) #[] lb) (eg : ∀ args w, (callFunc gf args).run P w = .ok (.enter gf args) w)
    {cb : Nat} {En : World → β → Value → Prop} {all : List β} {w0 : World} (hseq : SeqAll P gf lb cb En all w0) (hb0 : Below w0.heap.size w0 w) (hcb : cb < w.heap.size) (hps : ps.size = 1)
    (hEn : ∀ W l o o' x v, W.heap[l]? = some o → o.isCells = false → En W x v → En (W.putObj l o') x v)
    (I : List β → World → Prop) (hI : AbN w.heap.size I) (h0 : I [] w) (a₁ : Value → World → Act) (wa : Value → World → World)
    (hwa : ∀ (v : Value) (W : World), W.grownBy (wa v W) none) (hEn2 : ∀ (W : World) x v, En W x v → En (wa v W) x v)
    (hassign : ∀ (l : Nat) (pre : List β) (x : β) (v : Value) (W : World) (K : Act → World → Prop), En W x v → K (a₁ v W) (wa v W) →
      assign.wpIn (Fence.wide.inRound l) 0 P (Exit.then K (fun _ _ _ => False)) { tmps := (ps.zip #[v]).foldl (fun t (p, v) => t.setIfInBounds p v) a.tmps, defers := [] } W)
    (hbody : ∀ (l : Nat) (pre : List β) (x : β) (v : Value) (W0 W : World), I pre W → En W x v → x ∈ all → w.heap.size ≤ W0.heap.size → (∀ b, W0.heap.size ≤ b → W.heap[b]? = (wa v W0).heap[b]?) → W.heap.size = (wa v W0).heap.size → body.wpIn (Fence.wide.inRound l) 0 P (postA cb I (pre ++ [x]) W) (a₁ v W0) W)
    (hdone : ∀ (D : Nat) (W : World), w.heap.size ≤ D → I all W → W.heap[D]? = some (.deferred (some [])) → Q .normal { a with defers := { target := .collected D, args := #[] } :: a.defers } W) :
    (Code.rangeFunc g ps assign body).wp P Q a w := by
  refine (wpIn_wide (n := 1)).1 (wpIn_rangeFunc ?_)
  intro fn hfn
  rw [show Fence.wide.round = none from rfl]
  obtain ⟨rec, hrec⟩ : ∃ rec : LoopState → Option Code → Loop, rec = fun st pe => { state := st, pending := pe, fn, tmps := a.tmps, params := ps, assign, body, defers := w.heap.size } := ⟨_, rfl⟩
  obtain ⟨W1, hW1⟩ : ∃ W1, (w.alloc (.deferred (some []))).alloc (.loop (rec .ready none)) = W1 := ⟨_, rfl⟩
  have hsz1 : W1.heap.size = w.heap.size + 1 + 1 := by rw [← hW1]; simp
  have hL1 : W1.heap[w.heap.size + 1]? = some (.loop (rec .ready none)) := by
    rw [← hW1]
    have := World.alloc_heap_new (w.alloc (.deferred (some []))) (.loop (rec .ready none))
    rwa [World.size_alloc] at this
  have hK1 : W1.heap[w.heap.size]? = some (.deferred (some [])) := by
    rw [← hW1]; exact (Below.heap_alloc _ _ _ (by simp)).trans (World.alloc_heap_new w _)
  have hI1 : I [] W1 := by rw [← hW1]; exact hI.alloc _ (hI.alloc _ h0)
  have hb1 : Below w0.heap.size w0 W1 := by
    rw [← hW1]; exact hb0.trans ((((Below.refl _ w).alloc (Nat.le_refl _) _).alloc (by simp) _).mono hb0.size)
  refine ⟨w.heap.size + 1, [{ target := .collected w.heap.size, args := #[] }], W1, { target := .fn (.func gf) lb, args := #[.func (.yield (w.heap.size + 1)) #[] #[]] }, W1, gf,
    #[.func (.yield (w.heap.size + 1)) #[] #[]] ++ lb, W1, ?_, ?_, fun _ _ => trivial, ?_, (fun h => by cases h), callsIn_wide.2 ?_⟩
  · rw [← hW1, hrec]; exact run_enterLoop_outer _ _ _ _ _
  · simp only [resolve, hg]
    simp [go_sem]
  · simp [invoke, go_sem, eg]
  · refine (hseq (w.heap.size + 1)
      (fun pre W => I pre W ∧ W.heap[w.heap.size + 1]? = some (.loop (rec .ready none)) ∧ W.heap[w.heap.size]? = some (.deferred (some [])))
      W1 hb1 (fun s A B row hs hg' hr => ?_) ?_ ⟨hI1, hL1, hK1⟩).mono ?_
    · have k : ∀ (i : Nat) (o : Obj), i < W1.heap.size → A.heap[i]? = some o → B.heap[i]? = some o := fun i o hi ho =>
        (hg'.block i (Array.getElem?_eq_some_iff.1 ho).1 (fun e => by have := hr i e.symm; omega)).trans ho
      exact ⟨hI s A B row hs.1 hg' (fun r e => by have := hr r e; omega), k _ _ (by omega) hs.2.1, k _ _ (by omega) hs.2.2⟩
    · rintro pre x v W ⟨hi, hl, hk⟩ hen hmem
      have hlt : w.heap.size + 1 < W.heap.size := (Array.getElem?_eq_some_iff.1 hl).1
      have hy := run_yield (P := P) (args := #[v]) hl (by rw [hrec]; exact hps.symm)
      rw [hrec] at hy
      have hga := hwa v W
      have hla : (wa v W).heap[w.heap.size + 1]? = some (.loop (rec .ready none)) := (hga.block _ hlt (fun e => by cases e)).trans hl
      have hka : (wa v W).heap[w.heap.size]? = some (.deferred (some [])) := (hga.block _ (by omega) (fun e => by cases e)).trans hk
      have hia : I pre (wa v W) := hI _ _ _ none hi hga (fun r e => by cases e)
      have hlta : w.heap.size + 1 < (wa v W).heap.size := (Array.getElem?_eq_some_iff.1 hla).1
      refine ⟨fn, _, assign, body, hy, roundIn_of_wpIn hfn (hassign _ pre x v W _ hen ⟨_, run_beginRound hla (by rw [hrec]), ?_⟩)⟩
      have hl2 : ((wa v W).putObj (w.heap.size + 1) (.loop { rec .ready none with state := .busy })).heap[w.heap.size + 1]? = some (.loop { rec .ready none with state := .busy }) := World.putObj_heap_same hlta
      have hk2 : ((wa v W).putObj (w.heap.size + 1) (.loop { rec .ready none with state := .busy })).heap[w.heap.size]? = some (.deferred (some [])) := (World.putObj_heap_other (by omega)).trans hka
      refine wpIn_mono (hbody _ pre x v W _ (hI.putObj _ hia (by omega)) (hEn _ _ _ _ _ _ hla rfl (hEn2 _ _ _ hen)) hmem (by omega) (fun b hb => World.putObj_heap_other (by omega)) (by simp)) ?_
      rintro e a3 W3 hp
      cases e with
      | normal =>
        obtain ⟨hg3, hi3⟩ := hp
        have hl3 : W3.heap[w.heap.size + 1]? = some (.loop { rec .ready none with state := .busy }) := (hg3.block _ (by simp; omega) (fun e => by injection e; omega)).trans hl2
        have hk3 : W3.heap[w.heap.size]? = some (.deferred (some [])) := (hg3.block _ (by simp; omega) (fun e => by injection e; omega)).trans hk2
        have hr := run_endRound (P := P) none hl3
        refine ⟨_, _, hr, rfl, ⟨hI.putObj _ hi3 (by omega), ?_, (World.putObj_heap_other (by omega)).trans hk3⟩, ?_⟩
        · rw [World.putObj_heap_same (Array.getElem?_eq_some_iff.1 hl3).1, hrec]; rfl
        · have hka' : KpC cb W (wa v W) := ⟨hga.size, fun i o _ ho _ => (hga.block i (Array.getElem?_eq_some_iff.1 ho).1 (fun e => by cases e)).trans ho⟩
          exact ((hka'.trans (KpC.of_put _ hla rfl)).trans (KpC.of_grown hg3)).trans (KpC.of_put _ hl3 rfl)
      | ret => exact hp.elim
      | exit id => exact hp.elim
      | goto t => exact hp.elim
      | panic ch => exact hp.elim
      | outgrown => exact hp.elim
    · rintro e W2 ⟨⟨v, rfl⟩, hi, hl, hk⟩
      exact ⟨none, _, by have := run_endLoop (P := P) hl (by rw [hrec]; simp); rw [hrec] at this; exact this, hdone _ _ (Nat.le_refl _) (hI.putObj _ hi (by omega)) ((World.putObj_heap_other (by omega)).trans hk)⟩
theorem own_of_blocks {W W' : World} {B : Nat} (h : ∀ b, B ≤ b → W.heap[b]? = W'.heap[b]?) {p : Addr} (hp : B ≤ p.block) : W.cell? p = W'.cell? p := World.cell?_of_block (h _ hp)
end Go.Proofs.YthoodjjjklbggaaDoor

namespace Go.Proofs.YthoodjjjklbggaaDoor
open Go.RowKit Go.Sort Go.MapKept
set_option maxRecDepth 100000
attribute [local go_sem] Oper.semAt_some
theorem MapK.grown {W W' : World} {r : Nat} {ks : List Int} {row : Option Nat} (h : MapK W r ks) (hg : W.grownBy W' row) (hne : some r ≠ row) : MapK W' r ks := by
  obtain ⟨es, clock, hb, hs, hk⟩ := h
  exact ⟨es, clock, (hg.block r (Array.getElem?_eq_some_iff.1 hb).1 hne).trans hb, hs, hk⟩
theorem MapK.lt {W : World} {r : Nat} {ks : List Int} (h : MapK W r ks) : r < W.heap.size := by
  obtain ⟨es, clock, hb, -, -⟩ := h
  exact (Array.getElem?_eq_some_iff.1 hb).1
/-- what lies in the map between two rounds -/
def KdI (w0 : World) (n mb b3 : Nat) (done : List Nat) (W : World) : Prop :=
  MapK W mb (kdKeys n done) ∧ W.cell? ⟨b3, 0, none⟩ = some (.map (some mb)) ∧ Below w0.heap.size w0 W
theorem KdI.abn {w0 : World} {n mb b3 B : Nat} (hc : mb < B) (hk : b3 < B) (hw : w0.heap.size ≤ B) : AbN B (KdI w0 n mb b3) := by
  intro s W W' row h hg hr
  obtain ⟨h1, h3, h5⟩ := h
  have hkW := World.block_lt_of_cell? W _ h3
  exact ⟨h1.grown hg (fun e => by have := hr _ e.symm; omega), (World.cell?_of_block (hg.block b3 hkW (fun e => by have := hr _ e.symm; omega))).trans h3, h5.grown hg h5.size (fun k e => Nat.le_trans hw (hr k e))⟩
def ckdI (n : Int) : Int := if 1 ≤ n ∧ n ≤ 5 then (rc n.toNat : Int) else -1
set_option maxHeartbeats 4000000 in
theorem implKinds (N : Int) (w : World) :
    Calls Tryd.prog 24 #[.int .i64 N] w fun e w' => e = .returned (.int .i64 (ckdI N)) ∧ Below w.heap.size w w' := by
  by_cases hN : 1 ≤ N ∧ N ≤ 5
  case neg =>
    have i1 : inB N 1 5 = false := inB_false.2 hN
    rw [show ckdI N = -1 from if_neg hN]
    go_enter Tryd.func24, Tryd.ntmps24
    go_wp2_with fail
    refine (within_any _ _ _ _).mono ?_
    rintro e wz ⟨rfl, rfl⟩
    rw [i1]
    go_wp2
    go_ret
    exact ⟨rfl, Below.refl _ _⟩
  obtain ⟨n, rfl⟩ := Int.eq_ofNat_of_zero_le (show 0 ≤ N by omega)
  have h1 : 1 ≤ n := by omega
  have h5 : n ≤ 5 := by omega
  have i1 : inB (n : Int) 1 5 = true := inB_true.2 hN
  rw [show ckdI n = (rc n : Int) by unfold ckdI; rw [if_pos hN, Int.toNat_natCast]]
  clear hN
  refine calls_of_wpM Tryd.func24 rfl ?_
  simp only [Tryd.ntmps24, List.size_toArray, List.length_cons, List.length_nil, Nat.reduceAdd, Nat.reduceSub, Array.replicate_succ, Array.replicate_zero, List.push_toArray, List.append_toArray, List.nil_append, List.cons_append]
  go_wp2_with fail
  refine (within_any _ _ _ _).mono ?_
  rintro e wz ⟨rfl, rfl⟩
  rw [i1]
  have hmm := @run_makeMap Tryd.prog
  obtain ⟨w1, hw1⟩ : ∃ w1, w1 = (w.alloc (.map #[] 0)).alloc (.cells #[.map (some w.heap.size)] 67) := ⟨_, rfl⟩
  have B1 : Below w.heap.size w w1 := by rw [hw1]; exact (below_alloc1 w _).alloc (by simp) _
  have M1 : MapK w1 w.heap.size [] := by
    rw [hw1]
    exact (mapK_new w).grown (World.grownBy_alloc _ _ none) (by simp)
  have C1 : w1.cell? ⟨w.heap.size + 1, 0, none⟩ = some (.map (some w.heap.size)) := by
    rw [hw1]
    have := cell_new1 (w.alloc (.map #[] 0)) (.map (some w.heap.size)) 67
    simpa only [World.size_alloc] using this
  have HB1 := Lib.hid B1
  obtain ⟨mb, hmb⟩ : ∃ mb, mb = w.heap.size := ⟨_, rfl⟩
  obtain ⟨b3, hb3⟩ : ∃ b3, b3 = w.heap.size + 1 := ⟨_, rfl⟩
  have hs1 : w.heap.size + 1 < w1.heap.size := World.block_lt_of_cell? _ _ C1
  have HWM : Hid (w.heap.size ≤ mb) := Lib.hid (by omega)
  have HM1 : Hid (MapK w1 mb []) := Lib.hid (by rw [hmb]; exact M1)
  have HC1 : Hid (w1.cell? ⟨b3, 0, none⟩ = some (.map (some mb))) := Lib.hid (by rw [hmb, hb3]; exact C1)
  have HNE : Hid (mb < w1.heap.size ∧ b3 < w1.heap.size ∧ b3 ≠ mb) := Lib.hid (by omega)
  clear B1 M1 C1 hs1
  go_wp2_with fail
  rw [← hw1]
  clear hw1 hmm
  refine (allTours_any n w1).mono ?_
  rintro e w4 ⟨rfl, hw4⟩
  have HW4 := Lib.hid hw4
  clear hw4
  rw [← hb3, ← hmb]
  clear hmb hb3
  obtain ⟨hmb1, hb31, hne3⟩ := HNE.out
  clear HNE
  go_wp2_with fail
  have h4s : w4.heap.size = w1.heap.size + 1 := by rw [HW4.out]; simp
  have b24 : Below w1.heap.size w1 w4 := by rw [HW4.out]; exact below_alloc1 _ _
  have SEQ := allTours_all (n := n) h1 h5 w1.heap.size mb w4 (by omega) (by omega) (by omega) (by rw [HW4.out]; exact cell_new1 _ _ _)
  have hm4 := (HM1.out.grown (grown_below b24 none) (by simp))
  have hk4 := (b24.cell (p := ⟨b3, 0, none⟩) hb31).trans HC1.out
  have HB4 := Lib.hid (Below.then HB1.out b24)
  have hI0 : KdI w n mb b3 [] w4 := ⟨hm4, hk4, HB4.out⟩
  refine wp_rangeFunc_allB (gf := 76) (lb := #[.pointer (some ⟨w1.heap.size, 0, none⟩)]) rfl (fun _ _ => by kernel_rfl) SEQ (Below.refl _ _) (by omega) rfl (fun W l o o' x v h1 h2 h3 => by
      obtain ⟨sl, rfl, hr⟩ := h3; exact ⟨sl, rfl, rd_put h1 h2 hr⟩)
    (KdI w n mb b3) (KdI.abn (by omega) (by omega) HB4.out.size) hI0
    (fun v W => { tmps := #[.int .i64 n, undef, .int .i64 0, .pointer (some ⟨b3, 0, none⟩), .pointer (some ⟨W.heap.size, 0, none⟩), undef, undef, .int .i64 n, .bool true, .bool false, .map (some mb), .int .i64 n, .func (.func 76) #[] #[.pointer (some ⟨w1.heap.size, 0, none⟩)], v, undef, undef, undef, undef, undef, undef, undef, undef, undef, undef], defers := [] }) (fun v W => W.alloc (.cells (Value.cells v) 25)) (fun v W => World.grownBy_alloc W _ none) (fun W x v h3 => by
      obtain ⟨sl, rfl, hr⟩ := h3; exact ⟨sl, rfl, hr.alloc _⟩) ?assign ?body ?done
  case assign =>
    intro l pre x v W K hen hK
    obtain ⟨sl, rfl, hr⟩ := hen
    obtain ⟨Z, cz, rfl, -, -, -⟩ := hr
    gi_wp2
    exact hK
  case body =>
    rintro l pre x v W0 W ⟨hm, hkc, hb⟩ ⟨sl, rfl, hr⟩ hmem hsz hnew hsz2
    have hp := all_tour h1 (by omega) x
    have HP := Lib.hid hp
    have hln := tour_len hp
    obtain ⟨Z, cz, rfl, -, -, -⟩ := id hr
    have HRD := Lib.hid hr
    rw [hln] at HRD hnew hsz2 ⊢
    have HX : Hid (TBox W W0.heap.size n (.slice Z n cz)) := by
      have := TBox.new W0 n (.slice Z n cz) 25
      exact Lib.hid ⟨(own_of_blocks hnew (p := ⟨W0.heap.size, 0, none⟩) (Nat.le_refl _)).trans this.1, (own_of_blocks hnew (p := ⟨W0.heap.size, 1, none⟩) (Nat.le_refl _)).trans this.2⟩
    have HSS := Lib.hid hb
    have HM0 := Lib.hid hm
    have HK0 := Lib.hid hkc
    have hmW := hm.lt
    have hkW := World.block_lt_of_cell? W _ hkc
    have q6 : symB6 n (allL n x) = true := by simp [symB6, tourB_true.2 hp]; omega
    have HE := Lib.hid (ln_yes q6)
    have HLP : Hid (tourP n (lnL n (allL n x))) := by
      rw [Hid, (ln_yes q6).2]
      exact pick_tour hp _ fun ns hns => hns
    have HST : Hid (kdKeys n (pre ++ [x]) = insK (kdKeys n pre) (codeN (lnL n (allL n x)) : Nat)) := kd_snoc n pre x
    clear hr hp hln hnew hsz2 hm hkc hb hk4 hm4
    have y0 := HX.out.1
    have y1 := HX.out.2
    gi_wp2_with fail
    refine ⟨trivial, rfl, ?_⟩
    refine (callsIn_wide.2 (implLeast n (.slice Z n cz) (allL n x) W HRD.out)).mono ?_
    rintro e w5 ⟨sl', rfl, ho5, hb5⟩
    rw [q6, HE.out.1]
    have hln5 := tour_len HLP.out
    obtain ⟨Y, cy, rfl, -, -, -⟩ := ho5.form
    rw [hln5] at *
    generalize lnL n (allL n x) = L at *
    have hb6 := Below.then hb5 (below_alloc1 w5 (.cells #[.int .i64 n, .slice Y n cy] 25))
    have HY : Hid (TBox (w5.alloc (.cells #[.int .i64 n, .slice Y n cy] 25)) w5.heap.size n (.slice Y n cy)) := Lib.hid (TBox.new w5 n _ _)
    have HRY := Lib.hid (ho5.rd.below (below_alloc1 w5 (.cells #[.int .i64 n, .slice Y n cy] 25)))
    have HB6 := Lib.hid hb6
    have hb5w := hb5.size
    clear ho5 hb5 hb6 y0 y1 HE q6
    gi_wp2_with fail
    generalize w5.alloc (.cells #[.int .i64 n, .slice Y n cy] 25) = w6 at *
    generalize w5.heap.size = b5 at *
    have HK6 := Lib.hid ((HB6.out.cell (p := ⟨b3, 0, none⟩) hkW).trans HK0.out)
    have HM6 := Lib.hid (HM0.out.grown (grown_below HB6.out none) (by simp))
    have hHeld : w6.drew.cell? ⟨b3, 0, none⟩ = some (.map (some mb)) ∧ w6.drew.cell? ⟨b5, 0, none⟩ = some (.int .i64 n) ∧ w6.drew.cell? ⟨b5, 1, none⟩ = some (.slice Y n cy) := ⟨HK6.out, HY.out⟩
    refine round_region (noDefer_spec (by kernel_rfl)) (fun ⟨_, _, h⟩ => h) (by kernel_rfl) (wpAny_of_held (S := fun W' => W'.cell? ⟨b3, 0, none⟩ = some (.map (some mb)) ∧ W'.cell? ⟨b5, 0, none⟩ = some (.int .i64 n) ∧ W'.cell? ⟨b5, 1, none⟩ = some (.slice Y n cy)) _ _ _ _ ?_)
    refine wpAnyH_take (i := 0) (v := .map (some mb)) rfl (by kernel_rfl) (by kernel_rfl) (by kernel_rfl) (fun _ _ _ h => h) (Or.inl ⟨by rfl, by (intro w' hSw; obtain ⟨g0, g1, g2⟩ := hSw; go_simp)⟩) hHeld ?_
    refine wpAnyH_take (i := 1) (v := .agg #[.int .i64 n, .slice Y n cy]) rfl (by kernel_rfl) (by kernel_rfl) (by kernel_rfl) (fun _ _ _ h => h) (Or.inl ⟨by rfl, by (intro w' hSw; obtain ⟨g0, g1, g2⟩ := hSw; go_simp)⟩) hHeld ?_
    refine wpAnyH_ready (rs := [2]) (by kernel_rfl) (by simp) ?_
    refine AllReadyH.cons rfl (fun K hK => ?_) AllReadyH.nil
    go_simp
    refine (code_any n (.slice Y n cy) L w6.drew (show Rd w6.drew _ _ from HRY.out) HLP.out (by omega)).mono ?_
    rintro e w7 ⟨rfl, hb7⟩
    have BD := Lib.hid (show Below w6.heap.size w6 w6.drew from (Below.refl _ _).drew)
    have B7 := Lib.hid (Below.then BD.out hb7)
    have hX7 := HY.out.below B7.out
    have hK7 := (B7.out.cell (p := ⟨b3, 0, none⟩) (by have := HB6.out.size; show b3 < w6.heap.size; omega)).trans HK6.out
    have HM7 := Lib.hid (HM6.out.grown (grown_below B7.out none) (by simp))
    refine hK.out _ _ ⟨hK7, hX7.1, hX7.2⟩ (fun hHeld7 => ?_)
    clear hK K
    refine wpAnyH_ready (rs := [3]) (by kernel_rfl) (by simp) ?_
    refine AllReadyH.cons rfl (fun K hK => ?_) AllReadyH.nil
    go_simp
    obtain ⟨w8, hrun, hmk, hgr⟩ := mapK_update (P := Tryd.prog) (mty := 67) HM7.out Tryd.underlying67 Tryd.underlying3 (fun k => by simp [IsKey]) ((codeN L : Nat) : Int) (.bool true)
    rw [hrun]
    have HG8 := Lib.hid hgr
    have HMK := Lib.hid hmk
    have hX8 := hX7.kept hgr (by simp; omega)
    have hK8 := (World.cell?_of_block (hgr.block b3 (World.block_lt_of_cell? _ _ hK7) (by simp; omega))).trans hK7
    clear hrun hmk hgr
    go_simp
    refine hK.out _ _ ⟨hK8, hX8.1, hX8.2⟩ (fun hHeld8 => ?_)
    clear hK K
    refine wpAnyH_done (by kernel_rfl) ?_ _
    go_simp
    exact ⟨((grown_below HB6.out (some mb)).trans (grown_below B7.out (some mb))).trans HG8.out, by rw [HST.out]; exact HMK.out, hK8, (Below.then HSS.out (Below.then HB6.out B7.out)).grown HG8.out (Below.then HSS.out (Below.then HB6.out B7.out)).size (fun k e => by injection e with e; have := HWM.out; omega)⟩
  case done =>
    rintro D W hD ⟨hm, hkc, hb⟩ hK
    have HB := Lib.hid hb
    have HKD := Lib.hid hK
    have hlen : ∀ W ty, MapK W mb (kdKeys n (List.range (2 ^ (n * (n - 1) / 2)))) → (Builtin.len_ #[67] ty #[.map (some mb)]).run Tryd.prog W = .ok (.int .i64 (rc n)) W := fun W ty h => by
      obtain ⟨es, clock, hb, -, hk⟩ := h
      have e : es.size = rc n := by
        have := congrArg List.length hk
        rw [List.length_map, List.length_map, keys_len h1 h5, Array.length_toList] at this
        exact this
      simp [Builtin.len_, run_underlying Tryd.underlying67, MapKept.run_getObj_map hb, goInt, Result.andThen, e]
    have hlW := fun ty => hlen W ty hm
    clear hb hK hlen
    go_wp2
    have HBF := Lib.hid (HB.out.trans (belowK_b (w := w) (Nat.le_refl _) W D _ (.deferred none) (by have := HB4.out.size; omega) HKD.out rfl rfl))
    refine ⟨by simp, .inl ⟨_, _, rfl, run_takeDeferred HKD.out, ?_⟩⟩
    exact ⟨_, results_tmp rfl _ _ _, rfl, HBF.out⟩
end Go.Proofs.YthoodjjjklbggaaDoor

namespace Go.Proofs.YthoodjjjklbggaaDoor
open Go.RowKit Go.Sort
set_option maxRecDepth 100000
/-- the pairs that are done at (a, b) -/
def donePair (a b x y : Nat) : Prop := (x < a ∨ y < a) ∨ (x = a ∧ y < b) ∨ (y = a ∧ x < b)
/-- the rows of a tour that is half made -/
def HalfT (n a b : Nat) (N : List Int) : Prop := N.length = n ∧ ∃ f : Nat → Nat → Bool,
  (∀ x y, f x y = true → x < n ∧ y < n ∧ x ≠ y ∧ donePair a b x y) ∧ (∀ x y, x < n → y < n → x ≠ y → donePair a b x y → f x y = !f y x) ∧ ∀ x, x < n → N.getD x 0 = ((setOf (f x) n : Nat) : Int)
theorem setOf_more {p q : Nat → Bool} {y : Nat} (h0 : p y = false) (h1 : q y = true) (h2 : ∀ z, z ≠ y → q z = p z) : ∀ {n : Nat}, y < n → setOf q n = setOf p n + 2 ^ y := by
  intro n
  induction n with
  | zero => intro h; omega
  | succ n ih =>
    intro h
    simp only [setOf]
    by_cases e : y = n
    · subst e
      rw [h0, h1, setOf_congr (q := p) (fun j hj => h2 j (by omega))]; simp
    · rw [ih (by omega), h2 n (Ne.symm e)]; omega
theorem HalfT.start (n : Nat) : HalfT n 0 1 (List.replicate n 0) := by
  refine ⟨by simp, fun _ _ => false, fun x y h => by simp at h, fun x y hx hy hxy h => ?_, fun x hx => ?_⟩
  · unfold donePair at h; omega
  · rw [setOf_congr (q := fun _ => false) (fun _ _ => rfl)]
    have : setOf (fun _ => false) n = 0 := by
      clear hx
      induction n with
      | zero => rfl
      | succ n ih => simp [setOf, ih]
    rw [this]; simp [hx]
theorem HalfT.row {n a : Nat} {N : List Int} (h : HalfT n a n N) : HalfT n (a + 1) (a + 2) N := by
  obtain ⟨hl, f, h1, h2, h3⟩ := h
  have e : ∀ x y, x < n → y < n → x ≠ y → (donePair a n x y ↔ donePair (a + 1) (a + 2) x y) := fun x y hx hy hxy => by unfold donePair; omega
  exact ⟨hl, f, fun x y h => ⟨(h1 x y h).1, (h1 x y h).2.1, (h1 x y h).2.2.1, (e x y (h1 x y h).1 (h1 x y h).2.1 (h1 x y h).2.2.1).1 (h1 x y h).2.2.2⟩, fun x y hx hy hxy h => h2 x y hx hy hxy ((e x y hx hy hxy).2 h), h3⟩
/-- one game: u beats v, where {u, v} = {a, b} -/
theorem HalfT.game {n a b u v : Nat} {N : List Int} (h : HalfT n a b N) (hab : a < b) (hb : b < n) (huv : (u = a ∧ v = b) ∨ (u = b ∧ v = a)) {X : Nat} (hX : N.getD u 0 = (X : Int)) : HalfT n a (b + 1) (N.set u ((X + 2 ^ v : Nat) : Int)) := by
  obtain ⟨hl, f, h1, h2, h3⟩ := h
  have n1 : f u v = false := by
    rcases e : f u v with _ | _
    · rfl
    · have := (h1 u v e).2.2.2; unfold donePair at this; omega
  have n2 : f v u = false := by
    rcases e : f v u with _ | _
    · rfl
    · have := (h1 v u e).2.2.2; unfold donePair at this; omega
  refine ⟨by simp [hl], fun x y => f x y || (x == u && y == v), fun x y h => ?_, fun x y hx hy hxy hd => ?_, fun x hx => ?_⟩
  · rw [Bool.or_eq_true, Bool.and_eq_true, beq_iff_eq, beq_iff_eq] at h
    rcases h with h | ⟨rfl, rfl⟩
    · obtain ⟨p1, p2, p3, p4⟩ := h1 x y h
      exact ⟨p1, p2, p3, by unfold donePair at p4 ⊢; omega⟩
    · exact ⟨by omega, by omega, by omega, by unfold donePair; omega⟩
  · by_cases e1 : x = u ∧ y = v
    · obtain ⟨rfl, rfl⟩ := e1
      have : (y == x) = false := by simp; omega
      simp [n1, n2, this]
    · by_cases e2 : x = v ∧ y = u
      · obtain ⟨rfl, rfl⟩ := e2
        have : (x == y) = false := by simp; omega
        simp [n1, n2, this]
      · have hd' : donePair a b x y := by unfold donePair at hd ⊢; omega
        have q1 : (x == u && y == v) = false := by
          rcases q : (x == u && y == v) with _ | _
          · rfl
          · simp at q; exact absurd q e1
        have q2 : (y == u && x == v) = false := by
          rcases q : (y == u && x == v) with _ | _
          · rfl
          · simp at q; exact absurd ⟨q.2, q.1⟩ e2
        simp only [q1, q2, Bool.or_false]
        exact h2 x y hx hy hxy hd'
  · by_cases e : x = u
    · subst e
      rw [show (N.set x ((X + 2 ^ v : Nat) : Int)).getD x 0 = ((X + 2 ^ v : Nat) : Int) by simp [List.getD_eq_getElem?_getD, show x < N.length by omega]]
      have e3 : setOf (f x) n = X := by have := h3 x hx; omega
      rw [setOf_more (p := f x) (y := v) n1 (by simp) (fun z hz => by simp [hz]) (by omega), e3]
    · rw [show (N.set u ((X + 2 ^ v : Nat) : Int)).getD x 0 = N.getD x 0 by simp [List.getD_eq_getElem?_getD, List.getElem?_set_ne (Ne.symm e)], h3 x hx]
      have : setOf (fun y => f x y || (x == u && y == v)) n = setOf (f x) n := setOf_congr fun j _ => by simp [e]
      rw [this]
theorem HalfT.lt {n a b : Nat} {N : List Int} (h : HalfT n a b N) {x : Nat} (hx : x < n) : ∃ X : Nat, N.getD x 0 = (X : Int) ∧ X < 2 ^ n := by
  obtain ⟨hl, f, h1, h2, h3⟩ := h
  exact ⟨_, h3 x hx, setOf_lt _ _⟩
theorem HalfT.tour {n b : Nat} {N : List Int} (h : HalfT n n b N) (h1 : 1 ≤ n) (h8 : n ≤ 8) : tourP n N := by
  obtain ⟨hl, f, q1, q2, q3⟩ := h
  have hb : ∀ x y, x < n → bt N x y = (decide (y < n) && f x y) := fun x y hx => by
    unfold bt winsN
    rw [q3 x hx, Int.toNat_natCast, testBit_setOf]
  refine tour_of_bits (by omega) (by omega) (fun i hi => ⟨_, q3 i (by omega), by rw [hl]; exact setOf_lt _ _⟩) (fun a ha => ?_) (fun a c ha hc hac => ?_)
  · rw [hb a a (by omega)]
    rcases e : f a a with _ | _
    · simp
    · exact absurd rfl (q1 a a e).2.2.1
  · rw [hb a c (by omega), hb c a (by omega), q2 a c (by omega) (by omega) hac (by unfold donePair; omega)]
    simp [show a < n by omega, show c < n by omega]
end Go.Proofs.YthoodjjjklbggaaDoor

