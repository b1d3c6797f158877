/- Texts put together: Perm, OrC, HeldT, HTk, TrF. -/
import Derived.Test.YtbkiedhaacapbaaGreatMTop04
import Derived.Test.YtbkiedhaacapbaaGreatMTop12
import Derived.Test.YtbkiedhaacapbaaGreatMTop02
import Derived.Test.YtbkiedhaacapbaaGreatMTop17
import Derived.Deep.RegionHeld3
import Derived.Test.YtbkiedhaacapbaaGreatMTop09
namespace Go.Proofs.YtbkiedhaacapbaaGreat
open Go.RowKit Go.Sort
set_option maxRecDepth 100000

def ordAt (ns : List Int) (i : Nat) : Bool := inB (ns.getD i 0) 0 ((ns.length : Int) - 1) && !(containsI (ns.take i) (ns.getD i 0))
noncomputable def permB (n : Nat) (ns : List Int) : Bool := @decide (PermP n ns) (Classical.propDecidable _)
theorem permB_true {n : Nat} {ns : List Int} : permB n ns = true ↔ PermP n ns := by unfold permB; simp
theorem permB_false {n : Nat} {ns : List Int} : permB n ns = false ↔ ¬ PermP n ns := by rw [← permB_true]; simp
theorem getD_take_ {ns : List Int} {i j : Nat} (h : j < i) : (ns.take i).getD j 0 = ns.getD j 0 := by
  simp [List.getD_eq_getElem?_getD, h]
theorem ord_no {ns : List Int} {k : Nat} (hk : k < ns.length) (h : ordAt ns k = false) : permB ns.length ns = false := permB_false.2 fun hp => by
  have h1 := hp.2.1 _ (getD_mem' hk)
  have h2 : inB (ns.getD k 0) 0 ((ns.length : Int) - 1) = true := inB_true.2 (by omega)
  have h3 : containsI (ns.take k) (ns.getD k 0) = false := by
    unfold containsI
    rw [decide_eq_false_iff_not]
    intro hm
    obtain ⟨j, hj, e⟩ := List.mem_iff_getElem.1 hm
    rw [List.length_take] at hj
    rw [List.getElem_take] at e
    rw [show ns.getD k 0 = ns[k] by simp [hk]] at e
    exact List.pairwise_iff_getElem.1 hp.2.2 j k (by omega) hk (by omega) e
  rw [ordAt, h2, h3] at h
  simp at h
theorem ord_yes {ns : List Int} (h : ∀ k, k < ns.length → ordAt ns k = true) : permB ns.length ns = true := permB_true.2 <| by
  have hA : ∀ k, k < ns.length → (0 ≤ ns.getD k 0 ∧ ns.getD k 0 ≤ (ns.length : Int) - 1) ∧ ns.getD k 0 ∉ ns.take k := fun k hk => by
    have := h k hk
    unfold ordAt at this
    rw [Bool.and_eq_true, inB_true] at this
    refine ⟨this.1, ?_⟩
    have := this.2
    unfold containsI at this
    simpa using this
  refine ⟨rfl, fun x hx => ?_, ?_⟩
  · obtain ⟨k, hk, rfl⟩ := List.mem_iff_getElem.1 hx
    have := (hA k hk).1
    rw [show ns.getD k 0 = ns[k] by simp [hk]] at this
    omega
  · rw [List.Nodup, List.pairwise_iff_getElem]
    intro i j hi hj hij e
    refine (hA j hj).2 ?_
    rw [show ns.getD j 0 = ns[j] by simp [hj], ← e]
    rw [List.mem_iff_getElem]
    exact ⟨i, by rw [List.length_take]; omega, by rw [List.getElem_take]⟩
end Go.Proofs.YtbkiedhaacapbaaGreat

namespace Go.Proofs.YtbkiedhaacapbaaGreat
open Go.RowKit Go.Sort
set_option maxRecDepth 100000
variable {n : Nat} {sl ov : Value} {xs : List Int} {w : World} {l : List Nat}
theorem arIs_top {r : Nat → Nat → Bool} {n : Nat} {F M : List Int} (hr : ∀ a, r a a = false) (h : arIs r n (2 ^ n) F M) : F.getD (2 ^ n - 1) 0 = (fewN r n : Int) ∧ M.getD (2 ^ n - 1) 0 = (manyN r n : Int) := by
  have := h.2.2.1 (2 ^ n - 1) (full_ltN n)
  rw [(few_law hr).1] at this
  exact this
set_option maxHeartbeats 1000000 in
theorem cFew (hp : tourP n xs) (h : Rd w sl xs) : Calls Tryz.prog 11 #[.agg #[.int .i64 n, sl]] w fun e w' => e = .returned (.int .i64 (fewN (bt xs) n : Nat)) ∧ Below w.heap.size w w' := by
  have HR := Lib.hid h
  obtain ⟨A, cA, rfl, -, -, -⟩ := h
  rw [tour_len hp] at *
  have HP := Lib.hid hp
  have h8 : n ≤ 8 := by have := hp.1; omega
  have hfull := full_nat n h8
  have hlt := full_ltN n
  have hle := pow_le h8
  have HIR := Lib.hid (bt_irr hp)
  clear hp
  go_enter Tryz.func11, Tryz.ntmps11
  go_wp2_with fail
  have b0 := below_alloc1 w (.cells #[.int .i64 n, .slice A n cA] 25)
  have x0 := TBox.new w n (.slice A n cA) 25
  generalize w.alloc (.cells #[.int .i64 n, .slice A n cA] 25) = w0 at *
  have HX0 := Lib.hid x0
  have HB0 := Lib.hid b0
  clear x0 b0
  have y0_0 := HX0.out.1
  have y1_0 := HX0.out.2
  go_wp2_with fail
  refine (implTourOk n _ xs _ (HR.out.below HB0.out)).mono ?_
  rintro e w1 ⟨rfl, hb1⟩
  rw [tourB_true.2 HP.out]
  have HB1 := Lib.hid (Below.then HB0.out hb1)
  have HX1 := Lib.hid (HX0.out.below hb1)
  clear hb1 y0_0 y1_0 HX0 HB0
  have y0_1 := HX1.out.1
  have y1_1 := HX1.out.2
  go_wp2_with fail
  refine (cArr HP.out (HR.out.below HB1.out)).mono ?_
  rintro e w2 ⟨g1, g2, F, M, rfl, hA, hF, hM, hb2⟩
  have HB2 := Lib.hid (Below.then HB1.out hb2)
  have HX2 := Lib.hid (HX1.out.below hb2)
  have ht := (arIs_top HIR.out hA).1
  have zf := (hF.at0 hA.1 (Nat.two_pow_pos n)).1 _ hlt
  rw [ht] at zf
  clear hb2 y0_1 y1_1 HX1 hF hM hA ht
  have y0_2 := HX2.out.1
  have y1_2 := HX2.out.2
  generalize hpe : 2 ^ n - 1 = q at *
  generalize hpe2 : 2 ^ n = p at *
  clear hpe hpe2
  go_wp2
  go_ret
  exact ⟨rfl, HB2.out⟩
set_option maxHeartbeats 1000000 in
theorem cMany (hp : tourP n xs) (h : Rd w sl xs) : Calls Tryz.prog 22 #[.agg #[.int .i64 n, sl]] w fun e w' => e = .returned (.int .i64 (manyN (bt xs) n : Nat)) ∧ Below w.heap.size w w' := by
  have HR := Lib.hid h
  obtain ⟨A, cA, rfl, -, -, -⟩ := h
  rw [tour_len hp] at *
  have HP := Lib.hid hp
  have h8 : n ≤ 8 := by have := hp.1; omega
  have hfull := full_nat n h8
  have hlt := full_ltN n
  have hle := pow_le h8
  have HIR := Lib.hid (bt_irr hp)
  clear hp
  go_enter Tryz.func22, Tryz.ntmps22
  go_wp2_with fail
  have b0 := below_alloc1 w (.cells #[.int .i64 n, .slice A n cA] 25)
  have x0 := TBox.new w n (.slice A n cA) 25
  generalize w.alloc (.cells #[.int .i64 n, .slice A n cA] 25) = w0 at *
  have HX0 := Lib.hid x0
  have HB0 := Lib.hid b0
  clear x0 b0
  have y0_0 := HX0.out.1
  have y1_0 := HX0.out.2
  go_wp2_with fail
  refine (implTourOk n _ xs _ (HR.out.below HB0.out)).mono ?_
  rintro e w1 ⟨rfl, hb1⟩
  rw [tourB_true.2 HP.out]
  have HB1 := Lib.hid (Below.then HB0.out hb1)
  have HX1 := Lib.hid (HX0.out.below hb1)
  clear hb1 y0_0 y1_0 HX0 HB0
  have y0_1 := HX1.out.1
  have y1_1 := HX1.out.2
  go_wp2_with fail
  refine (cArr HP.out (HR.out.below HB1.out)).mono ?_
  rintro e w2 ⟨g1, g2, F, M, rfl, hA, hF, hM, hb2⟩
  have HB2 := Lib.hid (Below.then HB1.out hb2)
  have HX2 := Lib.hid (HX1.out.below hb2)
  have ht := (arIs_top HIR.out hA).2
  have zf := (hM.at0 hA.2.1 (Nat.two_pow_pos n)).1 _ hlt
  rw [ht] at zf
  clear hb2 y0_1 y1_1 HX1 hF hM hA ht
  have y0_2 := HX2.out.1
  have y1_2 := HX2.out.2
  generalize hpe : 2 ^ n - 1 = q at *
  generalize hpe2 : 2 ^ n = p at *
  clear hpe hpe2
  go_wp2
  go_ret
  exact ⟨rfl, HB2.out⟩
theorem best_more {r : Nat → Nat → Bool} {n S f a : Nat} (h : (memN S n).find? (fun a => decide ((costN r n S a : Int) + (arT r n (less S (2 ^ a))).1 = (arT r n S).1)) = some a) : bestF r n (f + 1) S = a :: bestF r n f (less S (2 ^ a)) := by
  rw [bestF, h]
theorem find_at {p : Nat → Bool} : ∀ {l : List Nat} {k : Nat}, k < l.length → (∀ j, j < k → p (l.getD j 0) = false) → p (l.getD k 0) = true → l.find? p = some (l.getD k 0) := by
  intro l
  induction l with
  | nil => intro k h; simp at h
  | cons a l ih =>
    intro k hk hn hy
    cases k with
    | zero =>
      have hy' : p a = true := hy
      rw [List.find?_cons, hy']; rfl
    | succ k =>
      have h0 : p a = false := hn 0 (by omega)
      rw [List.find?_cons, h0]
      exact ih (by simpa using hk) (fun j hj => hn (j + 1) (by omega)) hy
set_option maxHeartbeats 4000000 in
theorem cBestO (hp : tourP n xs) (h : Rd w sl xs) : Calls Tryz.prog 17 #[.agg #[.int .i64 n, sl]] w fun e w' => ∃ v', e = .returned v' ∧ Own w' w.heap.size v' (nI (bestO (bt xs) n)) ∧ Below w.heap.size w w' := by
  have HR := Lib.hid h
  obtain ⟨A, cA, rfl, -, -, -⟩ := h
  rw [tour_len hp] at *
  have HP := Lib.hid hp
  have h8 : n ≤ 8 := by have := hp.1; omega
  have hfull := full_nat n h8
  have hlt := full_ltN n
  have hle := pow_le h8
  have HIR := Lib.hid (bt_irr hp)
  have HCST : Hid (∀ (W : World) (a S : Nat), a < n → S < 2 ^ n → Below w.heap.size w W → Calls Tryz.prog 43 #[.agg #[.int .i64 n, .slice A n cA], .int .i64 a, .int .i64 S] W fun e w' => e = .returned (.int .i64 (costN (bt xs) n S a : Nat)) ∧ Below W.heap.size W w') := Lib.hid fun W a S ha hS hW => cCost HP.out (HR.out.below hW) ha hS
  clear hp
  go_enter Tryz.func17, Tryz.ntmps17
  go_wp2_with fail
  have b0 := below_alloc1 w (.cells #[.int .i64 n, .slice A n cA] 25)
  have x0 := TBox.new w n (.slice A n cA) 25
  generalize w.alloc (.cells #[.int .i64 n, .slice A n cA] 25) = w0 at *
  have HX0 := Lib.hid x0
  have HB0 := Lib.hid b0
  clear x0 b0
  have y0_0 := HX0.out.1
  have y1_0 := HX0.out.2
  go_wp2_with fail
  refine (implTourOk n _ xs _ (HR.out.below HB0.out)).mono ?_
  rintro e w1 ⟨rfl, hb1⟩
  rw [tourB_true.2 HP.out]
  have HB1 := Lib.hid (Below.then HB0.out hb1)
  have HX1 := Lib.hid (HX0.out.below hb1)
  clear hb1 y0_0 y1_0 HX0 HB0
  have y0_1 := HX1.out.1
  have y1_1 := HX1.out.2
  go_wp2_with fail
  refine (cArr HP.out (HR.out.below HB1.out)).mono ?_
  rintro e w2 ⟨g1, g2, F, M, rfl, hA, hF, hM, hb2⟩
  have HB2 := Lib.hid (Below.then HB1.out hb2)
  have HX2 := Lib.hid (HX1.out.below hb2)
  have HA := Lib.hid hA
  have HF2 := Lib.hid hF
  clear hb2 y0_1 y1_1 HX1 HB1 hF hM hA
  have y0_2 := HX2.out.1
  have y1_2 := HX2.out.2
  have hP1 := Nat.two_pow_pos n
  have hfb := full_mem n
  have hf0 : bestO (bt xs) n = [] ++ bestF (bt xs) n n (2 ^ n - 1) := rfl
  have HF0 := Lib.hid hf0
  have hcd : (memN (2 ^ n - 1) n).length = n := by rw [hfb, List.length_range]
  obtain ⟨p, hpe⟩ : ∃ p, p = 2 ^ n := ⟨_, rfl⟩
  have HPE := Lib.hid hpe
  rw [← hpe] at hle hlt hfull hP1 hcd ⊢
  have HF2 := Lib.hid (show Own w2 w1.heap.size (.slice (some ⟨g1, 0, none⟩) p p) F by rw [hpe]; exact HF2.out)
  rw [← hpe] at HF0
  clear hfb hf0 hpe
  have hg1 : g1 < w2.heap.size := (HF2.out.lt g1 rfl).2
  have hwz : w.heap.size < w2.heap.size := World.block_lt_of_cell? _ _ y0_2
  go_wp2
  rw [hfull]
  clear hfull
  go_loopw [5, 6] (fun t5 t6 wr => ∃ (S f : Nat) (q : List Nat), S < p ∧ t6 = .int .i64 S ∧ (memN S n).length = f ∧ Hid (bestO (bt xs) n = q ++ bestF (bt xs) n f S) ∧ q.length + f = n ∧ Hid (Own wr w2.heap.size t5 (nI q)) ∧ Hid (Own wr w1.heap.size (.slice (some ⟨g1, 0, none⟩) p p) F) ∧ Hid (TBox wr w.heap.size n (.slice A n cA)) ∧ Hid (Below w2.heap.size w2 wr)) (fun _ t6 _ => (intOf t6).toNat)
  case atStart => exact ⟨p - 1, n, [], hlt, rfl, hcd, HF0, by simp, Lib.hid (Own.nil_ _ _), HF2, HX2, Lib.hid (Below.refl _ _)⟩
  case round =>
    obtain ⟨wa, rfl⟩ : ∃ x, x = wr := ⟨_, rfl⟩
    obtain ⟨S, f, q, hSp, rfl, hf, HE, hqf, HO, HF, HX, HB⟩ := hrel
    clear HF2 HX2 HF0 y0_2 y1_2
    by_cases h0 : S = 0
    · as_aux_lemma =>
      subst h0
      have hf0 : f = 0 := by rw [← hf]; simp [memN]
      have HE2 : Hid (bestO (bt xs) n = q) := by unfold Hid; rw [HE.out, hf0]; simp [bestF]
      go_wp2
      go_ret
      exact ⟨_, rfl, by rw [HE2.out]; exact HO.out.mono (by omega), Below.then HB2.out HB.out⟩
    · as_aux_lemma =>
      have hS : S < 2 ^ n := by rw [← HPE.out]; exact hSp
      have hS0 : (0 : Int) < (S : Int) := by omega
      have hSd : decide ((0 : Int) < (S : Int)) = true := decide_eq_true hS0
      obtain ⟨a, ea, hma, hca⟩ := bestF_step HIR.out hS h0
      have HEA := Lib.hid ea
      have HF1 := HF.out
      go_wp2_with fail
      refine (membersOf_any S n wa hS (by omega)).mono ?_
      rintro e w3 ⟨v, rfl, ho, hb3⟩
      obtain ⟨B, d, rfl, hd1, hd2, hl⟩ := memL_cells ho
      unfold maxLen at hd1
      have HL := Lib.hid hl
      have HF3 := Lib.hid (HF.out.below hb3)
      have HO3 := Lib.hid (HO.out.below hb3)
      have HX3 := Lib.hid (HX.out.below hb3)
      have HB3 := Lib.hid (Below.then HB.out hb3)
      have hm8 := memN_len S n
      have hf1 : 0 < f := by rw [← hf]; exact List.length_pos_of_mem hma
      clear hb3 ho hl HF HO HX HB HF1 hca
      rw [hf] at HL hd2 hm8 ⊢
      have hLL := Lib.hid hf
      clear hf
      have HNO : Hid (∀ j, j < 0 → decide ((costN (bt xs) n S ((memN S n).getD j 0) : Int) + (arT (bt xs) n (less S (2 ^ (memN S n).getD j 0))).1 = (arT (bt xs) n S).1) = false) := Lib.hid fun j hj => absurd hj (by omega)
      go_wp2
      go_loopw [5, 6, 26] (fun t5 t6 t26 wr => ∃ (k : Nat), k ≤ f ∧ t26 = .int .i64 k ∧ t6 = .int .i64 S ∧ Hid (∀ j, j < k → decide ((costN (bt xs) n S ((memN S n).getD j 0) : Int) + (arT (bt xs) n (less S (2 ^ (memN S n).getD j 0))).1 = (arT (bt xs) n S).1) = false) ∧ Hid (Own wr w2.heap.size t5 (nI q)) ∧ Hid (Own wr w1.heap.size (.slice (some ⟨g1, 0, none⟩) p p) F) ∧ Hid (TBox wr w.heap.size n (.slice A n cA)) ∧ Hid (Below w3.heap.size w3 wr)) (fun _ _ t26 _ => f - (intOf t26).toNat)
      case atStart => exact ⟨0, by omega, rfl, rfl, HNO, HO3, HF3, HX3, Lib.hid (Below.refl _ _)⟩
      case round =>
        obtain ⟨wk, rfl⟩ : ∃ x, x = wr := ⟨_, rfl⟩
        obtain ⟨k, hk, rfl, rfl, HN, HO, HF, HX, HBk⟩ := hrel
        clear HNO HO3 HF3 HX3
        by_cases hltk : k < f
        · as_aux_lemma =>
          have hkl : k < (memN S n).length := by rw [hLL.out]; exact hltk
          have hmem : (memN S n).getD k 0 ∈ memN S n := by rw [getD_nat hkl]; exact List.getElem_mem hkl
          have ha := (mem_memN.1 hmem).1
          have hS60 : S < 2 ^ 62 := Nat.lt_of_lt_of_le hSp (Nat.le_trans hle (by decide))
          have hRS := less_small hS60 (by omega) hmem
          have hand := andNot_shl S ((memN S n).getD k 0) (by omega) (by omega)
          have hvR := (HA.out.2.2.1 _ (Nat.lt_trans hRS hS)).1
          have hvS := (HA.out.2.2.1 _ hS).1
          have hbR := arT_bound (r := bt xs) (S := less S (2 ^ (memN S n).getD k 0)) HIR.out h8 (less_lt hS)
          have hbS := arT_bound (r := bt xs) (S := S) HIR.out h8 hS
          have hc8 : costN (bt xs) n S ((memN S n).getD k 0) ≤ 8 := Nat.le_trans List.countP_le_length (Nat.le_trans (memN_len S n) h8)
          have hFl : F.length = p := by rw [HPE.out]; exact HA.out.1
          obtain ⟨hcf, -⟩ := HF.out.at0 hFl hP1
          have zr := hcf _ (Nat.lt_trans hRS hSp)
          have zs := hcf S hSp
          rw [hvR] at zr
          rw [hvS] at zs
          have k1 := quiet_below (w := wk) (fun W hW => HCST.out W ((memN S n).getD k 0) S ha hS (Below.then (Below.then HB2.out (Below.then HB3.out HBk.out)) hW))
          obtain ⟨gv, ov, rfl, hgv, hxv⟩ := HL.out (by omega)
          have zv := (HBk.out.cell (by exact hgv)).trans (hxv k hltk)
          have HFI : Hid ((∀ j, j < k + 1 → decide ((costN (bt xs) n S ((memN S n).getD j 0) : Int) + (arT (bt xs) n (less S (2 ^ (memN S n).getD j 0))).1 = (arT (bt xs) n S).1) = false) ∨ (memN S n).find? (fun a => decide ((costN (bt xs) n S a : Int) + (arT (bt xs) n (less S (2 ^ a))).1 = (arT (bt xs) n S).1)) = some ((memN S n).getD k 0)) := by
            unfold Hid
            rcases hq : decide ((costN (bt xs) n S ((memN S n).getD k 0) : Int) + (arT (bt xs) n (less S (2 ^ (memN S n).getD k 0))).1 = (arT (bt xs) n S).1) with _ | _
            · left
              intro j hj
              by_cases e : j = k
              · subst e; exact hq
              · exact HN.out j (by omega)
            · right; exact find_at hkl HN.out hq
          have HFJ : Hid (((costN (bt xs) n S ((memN S n).getD k 0) : Int) + (arT (bt xs) n (less S (2 ^ (memN S n).getD k 0))).1 == (arT (bt xs) n S).1) = true → (memN S n).find? (fun a => decide ((costN (bt xs) n S a : Int) + (arT (bt xs) n (less S (2 ^ a))).1 = (arT (bt xs) n S).1)) = some ((memN S n).getD k 0)) := Lib.hid fun hq => find_at hkl HN.out (by simpa using hq)
          have HFK : Hid (((costN (bt xs) n S ((memN S n).getD k 0) : Int) + (arT (bt xs) n (less S (2 ^ (memN S n).getD k 0))).1 == (arT (bt xs) n S).1) = false → ∀ j, j < k + 1 → decide ((costN (bt xs) n S ((memN S n).getD j 0) : Int) + (arT (bt xs) n (less S (2 ^ (memN S n).getD j 0))).1 = (arT (bt xs) n S).1) = false) := Lib.hid fun hq j hj => by
            by_cases e : j = k
            · subst e; simpa using hq
            · exact HN.out j (by omega)
          have HCL := Lib.hid (card_less hmem)
          have HLT := Lib.hid (less_lt (b := 2 ^ (memN S n).getD k 0) hS)
          clear hcf hvR hvS hmem HFI HN hxv hkl
          generalize (memN S n).getD k 0 = a at *
          have HBM := Lib.hid (fun h => best_more (r := bt xs) (n := n) (S := S) (f := f - 1) (a := a) h)
          generalize hRe : less S (2 ^ a) = R at *
          generalize (arT (bt xs) n R).1 = V at *
          generalize (arT (bt xs) n S).1 = T at *
          generalize costN (bt xs) n S a = C at *
          have y0_0 := HX.out.1
          have y1_0 := HX.out.2
          have c0 := cell_regrown zr
          have c1 := cell_regrown zs
          go_wp2_with fail
          have y0_q := cell_regrown y0_0
          have y1_q := cell_regrown y1_0
          clear y0_0 y1_0
          refine wp_region_below (by kernel_rfl) (by kernel_rfl) ?_
          repeat (go_big_quiet_step (first | (with_reducible exact k1 _ _)))
          refine wpQuiet_nil ?_
          intro wq hbq0
          have hbq := Lib.hid hbq0
          clear hbq0
          clear y0_q y1_q
          have HO4 := Lib.hid (HO.out.below hbq.out)
          have HF4 := Lib.hid (HF.out.below hbq.out)
          have HX4 := Lib.hid (HX.out.below hbq.out)
          have HB4 := Lib.hid (Below.then HBk.out hbq.out)
          clear k1 c0 c1 zr zs zv HO HF HX HBk hbq
          rcases hq : ((C : Int) + V == T) with _ | _
          · as_aux_lemma =>
            have HN4 := Lib.hid (HFK.out hq)
            go_wp2
            go_roundw
            case rel => exact ⟨k + 1, by omega, by go_num, rfl, HN4, HO4, HF4, HX4, HB4⟩
            case measure => simp [intOf]; omega
          · as_aux_lemma =>
            have HFD := Lib.hid (HFJ.out hq)
            have hlq : (nI q).length ≤ 1099511627776 := by rw [nI_len]; omega
            have HB5 := Lib.hid (Below.then HB3.out HB4.out)
            have hsz2 : w2.heap.size ≤ wq.heap.size := HB5.out.size
            have bx0 := below_alloc1 wq (.cells #[.int .i64 a] 3)
            have hO4 := HO4.out
            have HOa := Lib.hid (HO4.out.below bx0)
            have HFa := Lib.hid (HF4.out.below bx0)
            have HXa := Lib.hid (HX4.out.below bx0)
            have HBa := Lib.hid (Below.then HB5.out bx0)
            have hxk : ∀ v : Value, Own wq w2.heap.size v (nI q) → (Value.slice (some ⟨g1, 0, none⟩) p p).ownBlock = none ∨ (Value.slice (some ⟨g1, 0, none⟩) p p).ownBlock ≠ v.ownBlock := fun v hv => .inr fun e => by
              have h1 := (hv.lt g1 e.symm).1
              omega
            have hxb : ∀ v : Value, Own wq w2.heap.size v (nI q) → some w.heap.size ≠ v.ownBlock := fun v hv e => by
              have h1 := (hv.lt _ e.symm).1
              omega
            have hxk2 := hxk _ hO4
            have hxb2 := hxb _ hO4
            clear hxk hxb
            go_wp2_with (at_builtin; refine wp_append1 wq rfl (.tmp 47) (.tmp 49) rfl w2.heap.size _ (nI q) (a : Int) rfl hO4 (by simp [Act.eval]) hlq hsz2 ?_; intro v' w7 ho7 hg7; have HO7 := Lib.hid ho7; have HF7 := Lib.hid (HF4.out.kept hg7 hxk2); have HX7 := Lib.hid (HX4.out.kept hg7 hxb2); have HB7 := Lib.hid (HB5.out.grown hg7 HB5.out.size (fun k hk => by have := (hO4.lt k hk).1; omega)); clear ho7 hg7)
            have hfs : f - 1 + 1 = f := by omega
            have hbm := HBM.out HFD.out
            rw [hfs] at hbm
            have HE7 : Hid (bestO (bt xs) n = (q ++ [a]) ++ bestF (bt xs) n (f - 1) R) := by unfold Hid; rw [HE.out, hbm]; simp
            have hcl := HCL.out
            rw [hLL.out] at hcl
            have hqa : nI (q ++ [a]) = nI q ++ [(a : Int)] := by simp [nI]
            clear hbm
            go_roundw
            case rel => exact ⟨R, f - 1, q ++ [a], by omega, by go_num, by omega, HE7, by simp; omega, by rw [hqa]; exact HO7, HF7, HX7, HB7⟩
            case measure => simp [intOf]; omega
        · as_aux_lemma =>
          obtain rfl : k = f := by omega
          exfalso
          have hj := List.mem_iff_getElem.1 hma
          obtain ⟨i, hi, ei⟩ := hj
          have := HN.out i (by rw [← hLL.out]; exact hi)
          rw [getD_nat hi, ei] at this
          have h2 := List.find?_some HEA.out
          rw [this] at h2
          cases h2
end Go.Proofs.YtbkiedhaacapbaaGreat

namespace Go.Proofs.YtbkiedhaacapbaaGreat
open Go.RowKit Go.Sort

section
variable {P : Program} {ops : Array Oper} {md : Region.Mode} {S : World → Prop} {R : Exit → Act → World → Prop}

/-- whatever order is picked among the first n, with f of them left to do; S holds behind each -/
def pickH (P : Program) (md : Region.Mode) (ops : Array Oper) (R : Exit → Act → World → Prop) (S : World → Prop) (n : Nat) (L : Array Bool → Act → World → Prop) : Nat → Array Bool → Act → World → Prop
  | 0, b, a, w => L b a w
  | f + 1, b, a, w => Region.ready md ops b ≠ [] ∧ ∀ i ∈ Region.ready md ops b, i < n ∧ wpOp P ops R i (fun a' w' => S w' ∧ pickH P md ops R S n L f (b.setIfInBounds i true) a' w') a w

theorem pickH_any {n g : Nat} {L : Array Bool → Act → World → Prop} (hL : ∀ b a w, L b a w → wpAny P md ops R g b a w) (f : Nat) :
    ∀ (b : Array Bool) (a : Act) (w : World), pickH P md ops R S n L f b a w → wpAny P md ops R (f + g) b a w := by
  induction f with
  | zero => intro b a w h; rw [Nat.zero_add]; exact hL _ _ _ h
  | succ f ih =>
    intro b a w h
    rw [show f + 1 + g = (f + g) + 1 by omega]
    exact ⟨fun h0 => absurd h0 h.1, fun i hi => wpOp_mono (fun a' w' h' => ih _ a' w' h'.2) (h.2 i hi).2⟩

theorem pickH_first {n i : Nat} {oi : Oper} {v : Value} {L : Array Bool → Act → World → Prop} (hi : ops[i]? = some oi) (hsel : ∀ (j : Nat) (o : Oper) cs b, ops[j]? = some o → o.op ≠ .select cs b)
    (hs : Region.sinkB md ops n = true) (hc : Region.chainB md ops n = true) (hn : n < ops.size) (hin : i < n) (hdone : ∀ b a w, L b a w → ∀ j ∈ Region.ready md ops b, n ≤ j)
    (hQ : ∀ c a w, R (.panic c) (a.put oi.dst v) w → R (.panic c) a w) (f : Nat) :
    ∀ (b : Array Bool) (a : Act) (w : World), HeadInv md ops n b →
      (∀ j oj, ops[j]? = some oj → j ≠ i → b.getD j true = false → (∀ e ∈ oj.after, Region.binds md e = true → e.on ≠ i) → oi.apart ops oj = true) →
      i ∈ Region.ready md ops b → YieldsIf P ops S oi v a → S w →
      pickH P md ops R S n L f (b.setIfInBounds i true) (a.put oi.dst v) w → pickH P md ops R S n L (f + 1) b a w := by
  induction f with
  | zero =>
    intro b a w inv _ hr hy hS H
    have hun := (mem_ready.1 hr).1
    refine ⟨fun h => (by rw [h] at hr; cases hr), fun j hj => ?_⟩
    have hjn : j < n := Nat.lt_of_not_le fun h => tail_waits hs hc hn inv _ i rfl hin hun j h hj
    by_cases hji : j = i
    · subst hji; exact ⟨hjn, hy.wpOp hi hS ⟨hS, H⟩⟩
    · have := hdone _ _ _ H j (ready_mono hj hji); omega
  | succ f ih =>
    intro b a w inv hfree hr hy hS H
    have hun := (mem_ready.1 hr).1
    refine ⟨fun h => (by rw [h] at hr; cases hr), fun j hj => ?_⟩
    have hjn : j < n := Nat.lt_of_not_le fun h => tail_waits hs hc hn inv _ i rfl hin hun j h hj
    refine ⟨hjn, ?_⟩
    by_cases hji : j = i
    · subst hji; exact hy.wpOp hi hS ⟨hS, H⟩
    · obtain ⟨hjun, oj, hoj, hall⟩ := mem_ready.1 hj
      have hnot : ∀ e ∈ oj.after, Region.binds md e = true → e.on ≠ i := fun e he hb heq => by
        have h1 := hall e he hb
        rw [heq, getD_both hun] at h1
        cases h1
      have h2 := wpOp_putIf hoj (hfree j oj hoj hji hjun hnot) (fun cs b => hsel i oi cs b hi) (fun cs b => hsel j oj cs b hoj) hQ hy (H.2 j (ready_mono hj hji)).2
      refine wpOp_mono (fun a' w' h3 => ⟨h3.2.1, ih (b.setIfInBounds j true) a' w' (inv.set hj hjn) (fun k ok hk hki hun hno => hfree k ok hk hki ?_ hno) (ready_mono hr (Ne.symm hji)) h3.1 h3.2.1 ?_⟩) h2
      · by_cases hjk : j = k
        · subst hjk; exact hjun
        · rw [getD_set_ne true hjk] at hun; exact hun
      · rw [Array.setIfInBounds_comm _ _ hji]
        exact h3.2.2

/-- the walk's goal -/
def GoT (P : Program) (md : Region.Mode) (ops : Array Oper) (R : Exit → Act → World → Prop) (S : World → Prop) (n : Nat) (L : Array Bool → Act → World → Prop) (f : Nat) (b : Array Bool) (a : Act) (w : World) : Prop :=
  HeadInv md ops n b → pickH P md ops R S n L f b a w
/-- what the tail's head must look like -/
def tailL (P : Program) (md : Region.Mode) (ops : Array Oper) (R : Exit → Act → World → Prop) (n g : Nat) (l : List Oper) (b : Array Bool) (a : Act) (w : World) : Prop :=
  Region.seqB md ops g n b = true ∧ wpList P ops R l a w
/-- what is checked of a region once -/
def tailOk (md : Region.Mode) (ops : Array Oper) (n : Nat) : Bool := Region.noSelect ops && Region.sinkB md ops n && Region.chainB md ops n && decide (n < ops.size)

theorem drop_at {l : List Oper} {i : Nat} {o : Oper} {rest : List Oper} (h : l.drop i = o :: rest) : l.toArray[i]? = some o := by
  have := congrArg (fun l => l[0]?) h
  simpa [List.getElem?_drop] using this

/-- the operation is read off 'drop i', so that it stands written out -/
theorem GoT.take {l0 rest : List Oper} {n g f i : Nat} {oi : Oper} {v : Value} {l : List Oper} {b : Array Bool} {a : Act} {w : World} (hd : l0.drop i = oi :: rest) (hok : tailOk md l0.toArray n = true) (hin : decide (i < n) = true)
    (hf : Region.free md l0.toArray b i = true) (hr : (Region.ready md l0.toArray b).contains i = true) (hQ : ∀ c a w, R (.panic c) (a.put oi.dst v) w → R (.panic c) a w) (hy : YieldsIf P l0.toArray S oi v a) (hS : S w)
    (h : GoT P md l0.toArray R S n (tailL P md l0.toArray R n g l) f (b.setIfInBounds i true) (a.put oi.dst v) w) : GoT P md l0.toArray R S n (tailL P md l0.toArray R n g l) (f + 1) b a w := by
  intro inv
  have hi := drop_at hd
  simp only [tailOk, Bool.and_eq_true, decide_eq_true_eq] at hok
  have hr' : i ∈ Region.ready md l0.toArray b := by simpa using hr
  exact pickH_first hi (Region.noSelect_spec hok.1.1.1) hok.1.1.2 hok.1.2 hok.2 (of_decide_eq_true hin) (fun b a w hL => seqB_ready hL.1) hQ f b a w inv (Region.free_spec hi hf) hr' hy hS (h (inv.set hr' (of_decide_eq_true hin)))

/-- the only one that may come up -/
theorem GoT.one {l0 rest : List Oper} {n f i : Nat} {o : Oper} {L : Array Bool → Act → World → Prop} {b : Array Bool} {a : Act} {w : World} (hd : l0.drop i = o :: rest) (hin : decide (i < n) = true) (hr : Region.ready md l0.toArray b = [i])
    (h : ∀ K' : Act → World → Prop, Shut (∀ a w, S w → (S w → GoT P md l0.toArray R S n L f (b.setIfInBounds i true) a w) → K' a w) → if Region.wanted o (yielded l0.toArray a.tmps) = true then Oper.wp P o a w K' R else K' (a.put o.dst undef) w) :
    GoT P md l0.toArray R S n L (f + 1) b a w := by
  intro inv
  have hi := drop_at hd
  have hri : i ∈ Region.ready md l0.toArray b := by rw [hr]; simp
  refine ⟨by rw [hr]; simp, fun j hj => ?_⟩
  have hji : j = i := by rw [hr] at hj; simpa using hj
  subst hji
  exact ⟨of_decide_eq_true hin, wpOp_step hi (fun K' hK => h K' (fun a w hS hW => hK a w ⟨hS, hW hS (inv.set hri (of_decide_eq_true hin))⟩))⟩

theorem GoT.stop {n g : Nat} {l : List Oper} {b : Array Bool} {a : Act} {w : World} (hs : Region.seqB md ops g n b = true) (h : wpList P ops R l a w) : GoT P md ops R S n (tailL P md ops R n g l) 0 b a w := fun _ => ⟨hs, h⟩

theorem wp_region_heldT {id : Nat} {Q : Exit → Act → World → Prop} {a : Act} {w : World} {l : List Oper} (n : Nat) (S : World → Prop) (hm : P.follows .mixedOrders = true) (hok : tailOk .any l.toArray n = true) (hS : S w.drew)
    (h : S w.drew → GoT P .any l.toArray Q S n (tailL P .any l.toArray Q n (l.length - n) (l.drop n)) n (Array.replicate l.toArray.size false) a w.drew) : (Code.region id l.toArray true).wp P Q a w := by
  have hn : n < l.length := by simp only [tailOk, Bool.and_eq_true, decide_eq_true_eq] at hok; simpa using hok.2
  have hdl : (l.drop n).length = l.length - n := by simp
  refine wp_region_any hm ?_
  have H := h hS ⟨by simp, fun j oj _ hl => (by rw [getD_replicate_false] at hl; cases hl), fun t _ ht => getD_in (by simpa using ht) (getD_replicate_false _ _)⟩
  have := pickH_any (R := Q) (g := l.length - n) (fun b a' w' hL => by
    have := wpAny_of_seq (md := .any) (Q' := Q) (l.drop n) n b a' w' (fun j => by simp [List.getElem?_drop]) (by rw [hdl]; exact hL.1) hL.2
    rwa [hdl] at this) _ _ _ _ H
  rw [show n + (l.length - n) = l.toArray.size by simp; omega] at this
  exact this
end
end Go.Proofs.YtbkiedhaacapbaaGreat

namespace Go.Proofs.YtbkiedhaacapbaaGreat
open Go.RowKit Go.Sort
section
variable {P : Program} {md : Region.Mode} {S : World → Prop} {Q : Exit → Act → World → Prop}
theorem hTake {l0 rest : List Oper} {i : Nat} {oi : Oper} {v : Value} {fuel : Nat} {listed : Array Bool} {a : Act} {w : World} (hd : l0.drop i = oi :: rest)
    (hs : Region.noSelect l0.toArray = true) (hf : Region.free md l0.toArray listed i = true) (hr : (Region.ready md l0.toArray listed).contains i = true)
    (hQ : ∀ c a w, Q (.panic c) (a.put oi.dst v) w → Q (.panic c) a w) (hy : YieldsIf P l0.toArray S oi v a) (hS : S w)
    (h : wpAnyH P md l0.toArray Q S fuel (listed.setIfInBounds i true) (a.put oi.dst v) w) : wpAnyH P md l0.toArray Q S (fuel + 1) listed a w :=
  wpAnyH_take (drop_at hd) hs hf hr hQ hy hS h
theorem hSkip {l0 rest : List Oper} {i : Nat} {oi : Oper} {fuel : Nat} {listed : Array Bool} {a : Act} {w : World} (hd : l0.drop i = oi :: rest)
    (hs : Region.noSelect l0.toArray = true) (hf : Region.free md l0.toArray listed i = true) (hr : (Region.ready md l0.toArray listed).contains i = true)
    (hQ : ∀ c a w, Q (.panic c) (a.put oi.dst undef) w → Q (.panic c) a w) (hy : Region.wanted oi (yielded l0.toArray a.tmps) = false) (hS : S w)
    (h : wpAnyH P md l0.toArray Q S fuel (listed.setIfInBounds i true) (a.put oi.dst undef) w) : wpAnyH P md l0.toArray Q S (fuel + 1) listed a w :=
  wpAnyH_take (drop_at hd) hs hf hr hQ (.inr ⟨hy, rfl⟩) hS h
theorem hStep {l0 rest : List Oper} {i : Nat} {o : Oper} {fuel : Nat} {listed : Array Bool} {a : Act} {w : World} {rs : List Nat} (hd : l0.drop i = o :: rest)
    (h : ∀ K' : Act → World → Prop, Shut (∀ a w, S w → (S w → wpAnyH P md l0.toArray Q S fuel (listed.setIfInBounds i true) a w) → K' a w) → if Region.wanted o (yielded l0.toArray a.tmps) = true then Oper.wp P o a w K' Q else K' (a.put o.dst undef) w)
    (hs : AllReadyH P md l0.toArray Q S fuel listed a w rs) : AllReadyH P md l0.toArray Q S fuel listed a w (i :: rs) := AllReadyH.cons (drop_at hd) h hs
end
end Go.Proofs.YtbkiedhaacapbaaGreat

namespace Go.Proofs.YtbkiedhaacapbaaGreat
open Go.RowKit Go.Sort
set_option maxRecDepth 100000
def cardN (S n : Nat) : Nat := (memN S n).length
theorem cardN_succ (S n : Nat) : cardN S (n + 1) = cardN S n + if S.testBit n = true then 1 else 0 := by
  unfold cardN
  rw [memN_succ, List.length_append]
  split <;> simp
theorem card_split {S T : Nat} (h : ∀ c, T.testBit c = true → S.testBit c = true) (n : Nat) : cardN (less S T) n + cardN T n = cardN S n := by
  induction n with
  | zero => simp [cardN, memN]
  | succ n ih =>
    rw [cardN_succ, cardN_succ, cardN_succ, testBit_less]
    have := h n
    cases h1 : S.testBit n <;> cases h2 : T.testBit n <;> simp_all <;> omega
theorem card_pos {S n c : Nat} (hc : c < n) (h : S.testBit c = true) : 1 ≤ cardN S n := List.length_pos_of_mem (mem_memN.2 ⟨hc, h⟩)
theorem card_two {S n c d : Nat} (hc : c < n) (hd : d < n) (h1 : S.testBit c = true) (h2 : S.testBit d = true) (h : c ≠ d) : 2 ≤ cardN S n := by
  have h3 : d ∈ (memN S n).erase c := (List.mem_erase_of_ne (Ne.symm h)).2 (mem_memN.2 ⟨hd, h2⟩)
  have e := List.length_erase_of_mem (mem_memN.2 ⟨hc, h1⟩ : c ∈ memN S n)
  have := List.length_pos_of_mem h3
  unfold cardN; omega
theorem card_uniq {S n : Nat} (h : ∀ c d, c < n → d < n → S.testBit c = true → S.testBit d = true → c = d) : cardN S n ≤ 1 := by
  unfold cardN
  rcases q : memN S n with _ | ⟨a, _ | ⟨b, l⟩⟩
  · simp
  · simp
  · exfalso
    have ha := mem_memN.1 (show a ∈ memN S n by rw [q]; simp)
    have hb := mem_memN.1 (show b ∈ memN S n by rw [q]; simp)
    have := h a b ha.1 hb.1 ha.2 hb.2
    subst this
    have hn := memN_nodup S n
    rw [q] at hn
    simp at hn
theorem card_full (n : Nat) : cardN (2 ^ n - 1) n = n := by
  unfold cardN memN
  rw [List.filter_eq_self.2 fun a ha => by rw [testBit_full]; simpa using ha]
  simp
section
variable {n : Nat} {xs : List Int}
theorem top_ex (hp : tourP n xs) {S : Nat} (hS : S < 2 ^ n) (hc : clo xs S) (h0 : S ≠ 0) : ∃ b, b < n ∧ (topF xs n S).testBit b = true := by
  have hl := tour_len hp
  obtain ⟨a, ha⟩ := Nat.exists_testBit_of_ne_zero h0
  obtain ⟨b, hb, e⟩ := top_some hp (by rw [hl]; exact hS) hc _ a ha (Nat.le_refl _)
  have hbn := bit_lt hS hb
  exact ⟨b, hbn, by rw [testBit_topF]; simp [hbn, hb, e]⟩
theorem rest_n (hp : tourP n xs) {S : Nat} (hS : S < 2 ^ n) (hc : clo xs S) (h0 : S ≠ 0) : less S (topF xs n S) < S ∧ clo xs (less S (topF xs n S)) := by
  have hl := tour_len hp
  have h1 := rest_lt hp (by rw [hl]; exact hS) hc h0
  have h2 := rest_clo hp (by rw [hl]; exact hS) hc
  rw [hl] at h1 h2
  exact ⟨h1, h2⟩
theorem parts_step (hp : tourP n xs) {S : Nat} (hS : S < 2 ^ n) (hc : clo xs S) (h0 : S ≠ 0) : partsN xs S = topF xs n S :: partsN xs (less S (topF xs n S)) := by
  have := partsN_step hp (by rw [tour_len hp]; exact hS) hc h0
  rwa [tour_len hp] at this
theorem parts_card (hp : tourP n xs) : ∀ B S, S < B → S < 2 ^ n → clo xs S → (partsN xs S).length ≤ cardN S n ∧ ((partsN xs S).length = cardN S n → ∀ P ∈ partsN xs S, cardN P n = 1) := by
  intro B
  induction B with
  | zero => intro S h; omega
  | succ B ih =>
    intro S hB hS hc
    by_cases h0 : S = 0
    · subst h0; rw [partsN_zero]; simp
    · obtain ⟨h1, h2⟩ := rest_n hp hS hc h0
      obtain ⟨h3, h4⟩ := ih (less S (topF xs n S)) (by omega) (by omega) h2
      have h5 := card_split (top_sub xs n S) n
      obtain ⟨b, hb, hbt⟩ := top_ex hp hS hc h0
      have h6 := card_pos hb hbt
      rw [parts_step hp hS hc h0, List.length_cons]
      refine ⟨by omega, fun e P hP => ?_⟩
      rcases List.mem_cons.1 hP with rfl | hP
      · omega
      · exact h4 (by omega) P hP
/-- who is in the set is in a part, with all who reach the same -/
theorem parts_mem (hp : tourP n xs) : ∀ B S, S < B → S < 2 ^ n → clo xs S → ∀ c, S.testBit c = true → ∃ P ∈ partsN xs S, P.testBit c = true ∧ ∀ d, d < n → reachN xs d = reachN xs c → P.testBit d = true := by
  intro B
  induction B with
  | zero => intro S h; omega
  | succ B ih =>
    intro S hB hS hc c hcS
    have h0 : S ≠ 0 := fun e => by subst e; simp at hcS
    obtain ⟨h1, h2⟩ := rest_n hp hS hc h0
    rw [parts_step hp hS hc h0]
    by_cases ht : (topF xs n S).testBit c = true
    · refine ⟨_, by simp, ht, fun d hd e => ?_⟩
      rw [testBit_topF] at ht ⊢
      simp only [Bool.and_eq_true, decide_eq_true_eq, beq_iff_eq] at ht ⊢
      have hdd := (reach_facts hp (by rw [tour_len hp]; exact hd) (a := d)).1
      rw [e, ht.2.2] at hdd
      exact ⟨hd, hdd, by rw [e]; exact ht.2.2⟩
    · have hr : (less S (topF xs n S)).testBit c = true := by
        rw [testBit_less, hcS]
        simp only [Bool.not_eq_true] at ht
        rw [ht]; rfl
      obtain ⟨P, hP, h3⟩ := ih (less S (topF xs n S)) (by omega) (by omega) h2 c hr
      exact ⟨P, List.mem_cons_of_mem _ hP, h3⟩
def transP (xs : List Int) (n : Nat) : Prop := ∀ a b c, a < n → b < n → c < n → bt xs a b = true → bt xs b c = true → bt xs a c = true
theorem trans_reach (hp : tourP n xs) (ht : transP xs n) {a c : Nat} (ha : a < n) (h : (reachN xs a).testBit c = true) : c = a ∨ bt xs a c = true := by
  have hl := tour_len hp
  have hT : clo xs (winsN xs a ||| 2 ^ a) := fun b d hb hd => by
    rw [Nat.testBit_or, Nat.testBit_two_pow] at hb ⊢
    simp only [Bool.or_eq_true, decide_eq_true_eq] at hb ⊢
    have hbn : b < n := by
      rcases hb with h | h
      · exact bt_hi hp ha h
      · omega
    have hdn : d < n := bt_hi hp hbn hd
    rcases hb with h | rfl
    · exact .inl (ht a b d ha hbn hdn h hd)
    · exact .inl hd
  have := (reach_facts hp (by rw [hl]; exact ha) (a := a)).2.2.1 _ hT (by rw [Nat.testBit_or, Nat.testBit_two_pow]; simp) c h
  rw [Nat.testBit_or, Nat.testBit_two_pow] at this
  simp only [Bool.or_eq_true, decide_eq_true_eq] at this
  rcases this with h | h
  · exact .inr h
  · exact .inl h.symm
theorem trans_top (hp : tourP n xs) (ht : transP xs n) {S : Nat} (hS : S < 2 ^ n) (hc : clo xs S) (h0 : S ≠ 0) : cardN (topF xs n S) n = 1 := by
  obtain ⟨b, hb, hbt⟩ := top_ex hp hS hc h0
  have h1 := card_pos hb hbt
  have h2 : cardN (topF xs n S) n ≤ 1 := card_uniq fun c d hc' hd' h3 h4 => by
    rw [testBit_topF] at h3 h4
    simp only [Bool.and_eq_true, decide_eq_true_eq, beq_iff_eq] at h3 h4
    rcases trans_reach hp ht hc' (c := d) (by rw [h3.2.2]; exact h4.2.1) with e | e
    · exact e.symm
    · rcases trans_reach hp ht hd' (c := c) (by rw [h4.2.2]; exact h3.2.1) with e' | e'
      · exact e'
      · rw [(bt_asym hp hc' hd' e).1] at e'; cases e'
  omega
theorem trans_parts (hp : tourP n xs) (ht : transP xs n) : ∀ B S, S < B → S < 2 ^ n → clo xs S → (partsN xs S).length = cardN S n := by
  intro B
  induction B with
  | zero => intro S h; omega
  | succ B ih =>
    intro S hB hS hc
    by_cases h0 : S = 0
    · subst h0; rw [partsN_zero]; unfold cardN memN; rw [List.filter_eq_nil_iff.2 (by simp)]
    · obtain ⟨h1, h2⟩ := rest_n hp hS hc h0
      have h3 := ih (less S (topF xs n S)) (by omega) (by omega) h2
      have h5 := card_split (top_sub xs n S) n
      have h6 := trans_top hp ht hS hc h0
      rw [parts_step hp hS hc h0, List.length_cons]
      omega
theorem clo_all (hp : tourP n xs) : clo xs (2 ^ n - 1) := fun b c h hc => by
  rw [testBit_full, decide_eq_true_eq] at h ⊢
  exact bt_hi hp h hc
theorem reach_eq (hp : tourP n xs) {a b : Nat} (ha : a < n) (hb : b < n) (h1 : (reachN xs a).testBit b = true) (h2 : (reachN xs b).testBit a = true) : reachN xs a = reachN xs b := by
  have fa := reach_facts hp (by rw [tour_len hp]; exact ha) (a := a)
  have fb := reach_facts hp (by rw [tour_len hp]; exact hb) (a := b)
  exact sub_eq (fa.2.2.1 _ fb.2.1 h2) (fb.2.2.1 _ fa.2.1 h1)
theorem reach_step (hp : tourP n xs) {a b c : Nat} (ha : a < n) (h : (reachN xs a).testBit b = true) (hbc : bt xs b c = true) : (reachN xs a).testBit c = true :=
  (reach_facts hp (by rw [tour_len hp]; exact ha) (a := a)).2.1 b c h hbc
/-- as many parts as players: the tour is transitive -/
theorem trans_iff (hp : tourP n xs) : (partsN xs (2 ^ n - 1)).length = n ↔ transP xs n := by
  have hlt : 2 ^ n - 1 < 2 ^ n := by have := Nat.one_le_two_pow (n := n); omega
  constructor
  · intro e a b c ha hb hc hab hbc
    have hac : a ≠ c := fun e2 => by subst e2; rw [(bt_asym hp ha hb hab).1] at hbc; cases hbc
    rcases q : bt xs a c with _ | _
    · exfalso
      have hca := (bt_flip hp hc ha (Ne.symm hac)).2 q
      have raa := (reach_facts hp (by rw [tour_len hp]; exact ha) (a := a)).1
      have rbb := (reach_facts hp (by rw [tour_len hp]; exact hb) (a := b)).1
      have r1 := reach_step hp ha raa hab
      have r2 := reach_step hp hb (reach_step hp hb rbb hbc) hca
      have re := reach_eq hp ha hb r1 r2
      obtain ⟨P, hP, h1, h2⟩ := parts_mem hp _ _ (Nat.lt_succ_self _) hlt (clo_all hp) a (by rw [testBit_full]; simp [ha])
      have h3 := h2 b hb re.symm
      have h4 := (parts_card hp _ _ (Nat.lt_succ_self _) hlt (clo_all hp)).2 (by rw [e, card_full]) P hP
      have h5 := card_two ha hb h1 h3 (bt_asym hp ha hb hab).2
      omega
    · rfl
  · intro ht
    rw [trans_parts hp ht _ _ (Nat.lt_succ_self _) hlt (clo_all hp), card_full]
end
end Go.Proofs.YtbkiedhaacapbaaGreat

