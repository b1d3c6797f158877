/- Texts put together: TgO. -/
import Derived.Test.YthoodjjjklbggaaGreatDoorMTriangles27
import Derived.Test.YthoodjjjklbggaaGreatDoorMTriangles09
import Derived.Test.YthoodjjjklbggaaGreatDoorMTriangles15
namespace Go.Proofs.YthoodjjjklbggaaGreatDoor
open Go.RowKit Go.Sort
set_option maxRecDepth 100000
variable {n : Nat} {sl : Value} {xs : List Int} {w : World}
/-- a triangle in any order of its players is among the triangles -/
theorem triQ_some (hp : tourP n xs) {r : List Nat} (h : triQ xs n r) : 0 < (triA xs n n).length := by
  obtain ⟨a, b, c, rfl, ha, hb, hc, h1, h2, h3⟩ := h
  have hne : ∀ x y, x < n → bt xs x y = true → x ≠ y := fun x y hx h e => by
    subst e
    rw [(tr_bit hp hx hx).1 rfl] at h
    cases h
  have n1 := hne a b ha h1
  have n2 := hne b c hb h2
  have n3 := hne c a hc h3
  have key : ∀ r, r ∈ triA xs n n → 0 < (triA xs n n).length := fun r hr => List.length_pos_of_mem hr
  by_cases e1 : a < b ∧ a < c
  · exact key _ ((mem_tri hp).2 ⟨a, b, c, rfl, ha, hb, hc, e1.1, e1.2, h1, h2, h3⟩)
  · by_cases e2 : b < c ∧ b < a
    · exact key _ ((mem_tri hp).2 ⟨b, c, a, rfl, hb, hc, ha, e2.1, e2.2, h2, h3, h1⟩)
    · exact key _ ((mem_tri hp).2 ⟨c, a, b, rfl, hc, ha, hb, by omega, by omega, h3, h1, h2⟩)
set_option maxHeartbeats 1000000 in
theorem cPack2 (hp : tourP n xs) (h : Rd w sl xs) : Calls Tryz.prog 14 #[.agg #[.int .i64 n, sl]] w fun e w' => ∃ (C : Option Addr) (c : Nat) (out : List (List Nat)), e = .returned (.slice C out.length c) ∧ (∀ r ∈ out, triQ xs n r) ∧ (out.Pairwise fun r q => meetN q r = false) ∧ (0 < (triA xs n n).length → 0 < out.length) ∧ Below w.heap.size w w' := by
  have HR := Lib.hid h
  obtain ⟨A, cA, rfl, -, -, -⟩ := h
  rw [tour_len hp] at *
  have HP := Lib.hid hp
  have h8 : n ≤ 8 := by have := hp.1; omega
  have HTM : Hid (∀ k, k < (triA xs n n).length → ∃ q : List Nat, (triA xs n n).getD k [] = nI q ∧ triQ xs n q) := Lib.hid fun k hk => by
    rw [show (triA xs n n).getD k [] = (triA xs n n)[k] by simp [hk]]
    exact triA_mem hp (List.getElem_mem hk)
  have HTL : Hid ((triA xs n n).length ≤ 512) := Lib.hid (by
    have h1 := triA_len xs n n
    have h2 := nmul_le h8 (Nat.le_refl n)
    omega)
  clear hp
  go_enter Tryz.func14, Tryz.ntmps14
  go_wp2_with fail
  have b0 := below_alloc1 w (.cells #[.int .i64 n, .slice A n cA] 25)
  have x0 := TBox.new w n (.slice A n cA) 25
  generalize w.alloc (.cells #[.int .i64 n, .slice A n cA] 25) = w0 at *
  have HX0 := Lib.hid x0
  have HB0 := Lib.hid b0
  clear x0 b0
  have y0_0 := HX0.out.1
  have y1_0 := HX0.out.2
  go_wp2_with fail
  refine (cTriOf HP.out (HR.out.below HB0.out)).mono ?_
  rintro e w2 ⟨v2, rfl, ho2, hb2⟩
  generalize hTE : triA xs n n = T at *
  have HTE := Lib.hid hTE
  clear hTE
  have hro := ho2.rdr
  have HRO := Lib.hid hro
  obtain ⟨C, cC, rfl, hcC, hlC, hT⟩ := hro
  unfold maxLen at hcC
  have HT := Lib.hid hT
  have HB2 := Lib.hid (Below.then HB0.out hb2)
  have hln := HTL.out
  clear ho2 hb2 hT y0_0 y1_0 HX0 HB0
  go_wp2
  go_loopw [3, 10] (fun t3 t10 wr => ∃ (k : Nat) (out : List (List Nat)), k ≤ T.length ∧ t10 = .int .i64 k ∧ out.length ≤ k ∧ Hid (OwnHd w2 wr t3 (out.map nI)) ∧ Hid (∀ r ∈ out, triQ xs n r) ∧ Hid (out.Pairwise fun r q => meetN q r = false) ∧ Hid (0 < k → 0 < out.length) ∧ Hid (Below w2.heap.size w2 wr)) (fun _ t10 _ => T.length - (intOf t10).toNat)
  case atStart => exact ⟨0, [], by omega, rfl, by simp, Lib.hid (OwnHd.nil_ _ _), Lib.hid (fun r h => by simp at h), Lib.hid List.Pairwise.nil, Lib.hid (fun h => absurd h (by omega)), Lib.hid (Below.refl _ _)⟩
  case round =>
    obtain ⟨wa, rfl⟩ : ∃ x, x = wr := ⟨_, rfl⟩
    obtain ⟨k, out, hk, rfl, hol, HO, HQ, HPW, HNE, HB⟩ := hrel
    by_cases hlt : k < T.length
    · as_aux_lemma =>
      obtain ⟨g, rfl, hg, hx⟩ := HT.out (by omega)
      obtain ⟨u, hu, hru⟩ := hx k hlt
      obtain ⟨r, er, hr3⟩ := HTM.out k hlt
      rw [er] at hru
      have zu := (HB.out.cell (by exact hg)).trans hu
      have HRU := Lib.hid hru
      obtain ⟨BU, cU, rfl, -, -, -⟩ := hru
      generalize (nI r).length = lu at *
      have hr8 : ∀ x ∈ r, x < 8 := fun x hx => Nat.lt_of_lt_of_le (triQ_lt hr3 x hx) h8
      have HR3 := Lib.hid hr3
      have HR8 := Lib.hid hr8
      clear hx hu er hr3 hr8
      go_wp2_with fail
      have ba := below_alloc1 wa (.cells #[.slice BU lu cU] 23)
      have zb : (wa.alloc (.cells #[.slice BU lu cU] 23)).cell? ⟨wa.heap.size, 0, none⟩ = some (.slice BU lu cU) := by simp
      have HO1 := Lib.hid (HO.out.below ba)
      have HB1 := Lib.hid (Below.then HB.out ba)
      have HZB := Lib.hid zb
      generalize wa.alloc (.cells #[.slice BU lu cU] 23) = wb at *
      have hlm : (out.map nI).length ≤ 1048576 := by rw [List.length_map]; omega
      obtain ⟨P, hP⟩ : ∃ P : List Int → Bool, ∀ q, P (nI q) = meetN r q := ⟨fun x => meetN r (x.map Int.toNat), fun q => by
        show meetN r ((nI q).map Int.toNat) = meetN r q
        rw [nI_back]⟩
      have hcall : ∀ j, j < (out.map nI).length → ∀ u' w', Below wb.heap.size wb w' → Rd w' u' ((out.map nI).getD j []) → Calls Tryz.prog 33 (#[u'] ++ #[.pointer (some ⟨wa.heap.size, 0, none⟩)]) w' fun e w'' => e = .returned (.bool (P ((out.map nI).getD j []))) ∧ Below w'.heap.size w' w'' := fun j hj u' w' hw' hrd => by
        have hj' : j < out.length := by rw [List.length_map] at hj; exact hj
        have e1 : (out.map nI).getD j [] = nI out[j] := by simp [List.getD_eq_getElem?_getD, hj']
        rw [e1] at hrd ⊢
        rw [hP]
        exact pk1_any w' u' (.slice BU lu cU) r out[j] wa.heap.size ((hw'.cell (World.block_lt_of_cell? _ _ HZB.out)).trans HZB.out) ((HRU.out.below HB1.out).below hw') hrd HR8.out (fun x hx => Nat.lt_of_lt_of_le (triQ_lt (HQ.out _ (List.getElem_mem hj')) x hx) h8)
      have HAN : Hid ((out.map nI).any P = out.any fun q => meetN r q) := Lib.hid (by
        rw [List.any_map]
        congr 1
        funext q
        exact hP q)
      clear hP
      have hrr := HO1.out.rdr HB1.out
      refine (containsFuncV_any 33 #[.pointer (some ⟨wa.heap.size, 0, none⟩)] enters_pk1 _ (out.map nI) P wb hrr hlm hcall).mono ?_
      rintro e w3 ⟨rfl, hb3⟩
      have HO3 := Lib.hid (HO1.out.below hb3)
      have HB3 := Lib.hid (Below.then HB1.out hb3)
      have HZ3 := Lib.hid ((hb3.cell (World.block_lt_of_cell? _ _ HZB.out)).trans HZB.out)
      have hb60 := HB3.out.size
      rw [HAN.out]
      clear hb3 zb ba hrr hcall HO1 HB1 HZB HO HB HAN
      rcases qm : out.any (fun q => meetN r q) with _ | _
      · as_aux_lemma =>
        have HPQ : Hid ((out ++ [r]).Pairwise fun r q => meetN q r = false) := Lib.hid (by
          rw [List.pairwise_append]
          refine ⟨HPW.out, by simp, fun x hx y hy => ?_⟩
          simp at hy
          subst hy
          rw [List.any_eq_false] at qm
          simpa using qm x hx)
        have HQ2 : Hid (∀ x ∈ out ++ [r], triQ xs n x) := Lib.hid (fun x hx => by
          rcases List.mem_append.1 hx with hx | hx
          · exact HQ.out x hx
          · simp at hx; subst hx; exact HR3.out)
        have e3 : (out ++ [r]).map nI = out.map nI ++ [nI r] := by simp
        have HE3 := Lib.hid e3
        clear qm HPW HQ e3
        have z3 := HZ3.out
        have bx := below_alloc1 w3 (.cells #[.slice BU lu cU] 23)
        have HB4 := Lib.hid (Below.then HB3.out bx)
        clear bx
        go_wp2_with (at_builtin; refine wp_append1H w3 rfl (.tmp 19) (.tmp 21) rfl w2 _ (out.map nI) _ (nI r) rfl HO3.out hb60 HRU.out (by simp [Act.eval]) hlm ?_; intro v' w7 ho7 hg7; have HO7 := Lib.hid ho7; have HB7 := Lib.hid (HB3.out.grown hg7 hb60 (fun k hk => (HO3.out.lt k hk).1)); clear ho7 hg7)
        go_roundw
        case rel => exact ⟨k + 1, out ++ [r], by omega, by go_num, by simp; omega, by rw [HE3.out]; exact HO7, HQ2, HPQ, Lib.hid (fun _ => by simp), HB7⟩
        case measure => simp [intOf]; omega
      · as_aux_lemma =>
        have HNE2 : Hid (0 < k + 1 → 0 < out.length) := Lib.hid (fun _ => by
          rcases out with _ | ⟨r0, out⟩
          · simp at qm
          · simp)
        clear qm
        go_wp2
        go_roundw
        case rel => exact ⟨k + 1, out, by omega, by go_num, by omega, HO3, HQ, HPW, HNE2, HB3⟩
        case measure => simp [intOf]; omega
    · as_aux_lemma =>
      obtain rfl : k = T.length := by omega
      obtain ⟨D, dd, eD, -, -, -⟩ := HO.out.rdr HB.out
      rw [List.length_map] at eD
      subst eD
      go_wp2
      go_ret
      exact ⟨D, dd, out, rfl, HQ.out, HPW.out, fun h => HNE.out (by rw [← HTE.out]; exact h), Below.then HB2.out HB.out⟩
theorem cPackT (hp : tourP n xs) (h : Rd w sl xs) : Calls Tryz.prog 14 #[.agg #[.int .i64 n, sl]] w fun e w' => ∃ (C : Option Addr) (c k : Nat), e = .returned (.slice C k c) ∧ k ≤ fewN (bt xs) n ∧ (k = 0 ↔ (triA xs n n).length = 0) ∧ Below w.heap.size w w' :=
  (cPack2 hp h).mono fun e w' ⟨C, c, out, h1, h2, h3, h4, h5⟩ => ⟨C, c, out.length, h1, by
    obtain ⟨hl, hf⟩ := bestO_law (r := bt xs) (n := n) (fun a => bt_irr hp a)
    have := pack_few hp hl h2 h3
    omega, by
    constructor
    · intro e
      rcases Nat.eq_zero_or_pos (triA xs n n).length with h | h
      · exact h
      · have := h4 h; omega
    · intro e
      rcases out with _ | ⟨r, out⟩
      · rfl
      · have := triQ_some hp (h2 r (by simp))
        omega, h5⟩
theorem cTriAt (hp : tourP n xs) (h : Rd w sl xs) {a : Nat} (ha : a < n) : Calls Tryz.prog 7 #[.agg #[.int .i64 n, sl], .int .i64 a] w fun e w' => e = .returned (.int .i64 (cntR (triA xs n n) a (triA xs n n).length : Nat)) ∧ Below w.heap.size w w' := by
  have := implTri n sl xs a w h
  unfold triI at this
  rw [if_pos (by rw [tourB_true.2 hp, Bool.true_and, inB_true]; omega), tour_len hp] at this
  exact this
end Go.Proofs.YthoodjjjklbggaaGreatDoor

