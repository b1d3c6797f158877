/- Texts put together: Rot, PtC, TrOn, Pow, Defeat, ScsOf, Trn. -/
import Derived.Test.YtbkiedhaacapbaaGreatMTop11
import Derived.Test.YtbkiedhaacapbaaGreatMTop19
import Derived.Test.YtbkiedhaacapbaaGreatMTop18
import Derived.Test.YtbkiedhaacapbaaGreatMTop05
import Derived.Test.YtbkiedhaacapbaaGreatMTop12
import Derived.Deep.RegionHeld3
import Derived.Test.YtbkiedhaacapbaaGreatMTop02
import Derived.Test.YtbkiedhaacapbaaGreatMTop07
import Derived.Test.YtbkiedhaacapbaaGreatMTop16
namespace Go.Proofs.YtbkiedhaacapbaaGreat
open Go.RowKit Go.Sort
set_option maxRecDepth 100000

def rotP (xs : List Int) (n a b : Nat) : Bool := containsI xs (((b : Int) - a + n) % n)
def rotT (xs : List Int) (n : Nat) : List Int := toL (rotP xs n) n
noncomputable def rtS (n : Int) (xs : List Int) : Int := if connB n xs = true then n else 0
noncomputable def rtL (n : Int) (xs : List Int) : List Int := if connB n xs = true then rotT xs n.toNat else []
theorem connB_iff {n : Int} {xs : List Int} : connB n xs = true ↔ connP n xs := by unfold connB; simp
theorem rtL_len (n : Int) (xs : List Int) : (rtL n xs).length ≤ 8 := by
  unfold rtL
  split
  · rename_i h
    have := (connB_iff.1 h).1
    rw [rotT, toL_len]; omega
  · simp
theorem rt_no {n : Int} {xs : List Int} (h : connB n xs = false) : rtS n xs = 0 ∧ rtL n xs = [] := by simp [rtS, rtL, h]
theorem rt_yes {n : Int} {xs : List Int} (h : connB n xs = true) : rtS n xs = n ∧ rtL n xs = rotT xs n.toNat := by simp [rtS, rtL, h]
end Go.Proofs.YtbkiedhaacapbaaGreat

namespace Go.Proofs.YtbkiedhaacapbaaGreat
open Go.RowKit Go.Sort
set_option maxRecDepth 100000
set_option maxHeartbeats 1000000 in
theorem pt1_any (n : Nat) (sl : Value) (xs : List Int) (hp : tourP n xs) (L : List Nat) (m : Nat) (hm : L.length = m) (lsl : Value) (a b gt gl : Nat) (W : World) (hr : Rd W sl xs) (ht : TBox W gt n sl) (hlb : W.cell? ⟨gl, 0, none⟩ = some lsl)
    (hl : Rd W lsl (nI L)) (hL : ∀ x ∈ L, x < n) (ha : a < m) (hb : b < m) :
    Calls Tryz.prog 94 #[.int .i64 a, .int .i64 b, .pointer (some ⟨gt, 0, none⟩), .pointer (some ⟨gl, 0, none⟩)] W fun e w' => e = .returned (.bool (bt xs (L.getD a 0) (L.getD b 0))) ∧ Below W.heap.size W w' := by
  have hA : L.getD a 0 < n := hL _ (by rw [getD_nat (by omega)]; exact List.getElem_mem _)
  have hB : L.getD b 0 < n := hL _ (by rw [getD_nat (by omega)]; exact List.getElem_mem _)
  have hA0 : (0 : Int) ≤ ((L.getD a 0 : Nat) : Int) := by omega
  have hB0 : (0 : Int) ≤ ((L.getD b 0 : Nat) : Int) := by omega
  have hA1 : ((L.getD a 0 : Nat) : Int) < xs.length := by rw [tour_len hp]; omega
  have hB1 : ((L.getD b 0 : Nat) : Int) ≤ 63 := by have := hp.1; omega
  have k1 := quiet_below (w := W) (fun W' hW => beats_any n sl xs (L.getD a 0 : Nat) (L.getD b 0 : Nat) W' (hr.below hW) hA0 hA1 hB0 hB1)
  clear hA0 hB0 hA1 hB1
  rw [Int.toNat_natCast, Int.toNat_natCast, bitI_bt (tour_wins hp (by rw [tour_len hp]; exact hA)).1] at k1
  obtain ⟨A, c, rfl, h1, h2, h3⟩ := hl
  rw [nI_len, hm] at hlb h1 h3
  obtain ⟨g, off, rfl, hg, hx⟩ := h3 (by omega)
  have za := hx a ha
  have zb := hx b hb
  rw [nI_getD (by omega)] at za zb
  generalize L.getD a 0 = x at *
  generalize L.getD b 0 = y at *
  have d1 := cell_regrown ht.1
  have d2 := cell_regrown ht.2
  have d3 := cell_regrown hlb
  have d4 := cell_regrown za
  have d5 := cell_regrown zb
  clear hr ht hp hx hL hlb za zb
  go_enter Tryz.func94, Tryz.ntmps94
  go_wp2_with fail
  refine wp_region_below (by kernel_rfl) (by kernel_rfl) ?_
  repeat (go_big_quiet_step (first | (with_reducible exact k1 _ _)))
  refine wpQuiet_nil ?_
  intro wq hbq0
  have HBQ := Lib.hid hbq0
  clear hbq0 d1 d2 d3 d4 d5 k1
  go_wp2
  go_ret
  exact ⟨rfl, HBQ.out⟩
theorem enters_pt1 : Enters 94 := fun _ _ => by kernel_rfl
/-- the tour of a set's players -/
def ptL (xs : List Int) (S : Nat) : List Int := toL (fun a b => bt xs ((memN S 8).getD a 0) ((memN S 8).getD b 0)) (memN S 8).length
theorem ptL_len (xs : List Int) (S : Nat) : (ptL xs S).length = (memN S 8).length := toL_len _ _
set_option maxHeartbeats 2000000 in
theorem cPart (n : Nat) (sl : Value) (xs : List Int) (S : Nat) (w : World) (h : Rd w sl xs) (hp : tourP n xs) (h1 : 1 ≤ S) (hS : S < 2 ^ n) :
    Calls Tryz.prog 71 #[.agg #[.int .i64 n, sl], .int .i64 S] w fun e w' => ∃ Y cy, e = .returned (.tuple #[.agg #[.int .i64 (memN S 8).length, .slice Y (memN S 8).length cy], .bool true]) ∧ Own w' w.heap.size (.slice Y (memN S 8).length cy) (ptL xs S) ∧ Below w.heap.size w w' := by
  have HR := Lib.hid h
  have HP := Lib.hid hp
  have q0 : tourB n xs = true := tourB_true.2 hp
  have hln := tour_len hp
  have hs := hp.1
  have h8 : n ≤ 8 := by omega
  have h256 : 2 ^ n ≤ 256 := Nat.pow_le_pow_right (n := 2) (j := 8) (by decide) h8
  have hS256 : S < 256 := by omega
  have hin : inB (S : Int) 1 ((2 ^ n - 1 : Nat) : Int) = true := inB_true.2 ⟨by omega, by omega⟩
  have hfull := full_nat n (by omega)
  have HM : Hid (∀ b ∈ memN S 8, b < n) := Lib.hid fun b hb => bit_lt hS (mem_memN.1 hb).2
  have hm8 := memN_len S 8
  have hm1 : 1 ≤ (memN S 8).length := by
    obtain ⟨c, hc⟩ := Nat.exists_testBit_of_ne_zero (show S ≠ 0 by omega)
    exact List.length_pos_of_mem (mem_memN.2 ⟨by have := bit_lt hS hc; omega, hc⟩)
  obtain ⟨A, c, rfl, -, hcm, -⟩ := h
  unfold maxLen at hcm
  rw [hln] at HR ⊢
  clear hp hln hS h256
  go_enter Tryz.func71, Tryz.ntmps71
  go_wp2_with fail
  have b0 := (below_alloc1 w (.cells #[.int .i64 n, .slice A n c] 25)).alloc (by simp) (.cells #[.int .i64 0, .slice none 0 0] 25)
  have x0 := (TBox.new w n (.slice A n c) 25).below (below_alloc1 _ (.cells #[.int .i64 0, .slice none 0 0] 25))
  have t0 := BoxF.new (w.alloc (.cells #[.int .i64 n, .slice A n c] 25)) 0 (.slice none 0 0) 25
  simp only [World.size_alloc] at t0
  generalize (w.alloc (.cells #[.int .i64 n, .slice A n c] 25)).alloc (.cells #[.int .i64 0, .slice none 0 0] 25) = w0 at *
  have HX0 := Lib.hid x0
  have HB0 := Lib.hid b0
  have HT0 := Lib.hid t0
  clear x0 b0 t0
  have y0_0 := HX0.out.1
  have y1_0 := HX0.out.2
  go_wp2_with fail
  refine (implTourOk n _ xs _ (HR.out.below HB0.out)).mono ?_
  rintro e w1 ⟨rfl, hb⟩
  have HX1 := Lib.hid (HX0.out.below hb)
  have HT1 := Lib.hid (HT0.out.below hb)
  have HB1 := Lib.hid (Below.then HB0.out hb)
  clear hb HX0 HT0 HB0 y0_0 y1_0
  have y0_1 := HX1.out.1
  have y1_1 := HX1.out.2
  rw [q0]
  go_wp2_with fail
  refine (within_any _ _ _ _).mono ?_
  rintro e w2 ⟨rfl, rfl⟩
  first | rw [hin] | skip
  clear hfull
  go_wp2_with fail
  refine (membersOf_any S 8 _ hS256 (by omega)).mono ?_
  rintro e w3 ⟨v, rfl, ho, hb3⟩
  clear y0_1 y1_1 hin
  obtain ⟨LA, lc, rfl, hlc1, hlc2, -⟩ := memL_cells ho
  have HL3 := Lib.hid (show Rd w3 (.slice LA (memN S 8).length lc) (nI (memN S 8)) from ho.rd)
  generalize hmm : (memN S 8).length = m at *
  have HMM := Lib.hid hmm
  clear hmm ho
  obtain ⟨gl, hgl⟩ : ∃ gl, gl = w3.heap.size := ⟨_, rfl⟩
  have hba := below_alloc1 w3 (.cells #[.slice LA m lc] 23)
  have B14 := Lib.hid (Below.then hb3 hba)
  have HX4 := Lib.hid (HX1.out.below B14.out)
  have HT4 := Lib.hid (HT1.out.below B14.out)
  have HB4 := Lib.hid (Below.then HB1.out B14.out)
  have HL4 := Lib.hid (HL3.out.below hba)
  have HC4 : Hid ((w3.alloc (.cells #[.slice LA m lc] 23)).cell? ⟨gl, 0, none⟩ = some (.slice LA m lc)) := Lib.hid (by simp [hgl])
  clear hba hb3 HX1 HT1 HB1 HL3 B14
  go_wp2_with fail
  rw [← hgl]
  generalize w3.alloc (.cells #[.slice LA m lc] 23) = w4 at *
  clear hgl
  have y2 := HC4.out
  go_wp2_with fail
  refine (tourOf_any m hm1 hm8 94 #[.pointer (some ⟨w.heap.size, 0, none⟩), .pointer (some ⟨gl, 0, none⟩)] enters_pt1 (fun a b => bt xs ((memN S 8).getD a 0) ((memN S 8).getD b 0)) w4 (fun a b ha hb W hW => pt1_any n (.slice A n c) xs HP.out (memN S 8) m HMM.out (.slice LA m lc) a b w.heap.size gl W (HR.out.below (Below.then HB4.out hW)) (HX4.out.below hW) ((hW.cell (World.block_lt_of_cell? _ _ HC4.out)).trans HC4.out) (HL4.out.below hW) HM.out ha hb)).mono ?_
  rintro e w5 ⟨sl', rfl, ho, hb5⟩
  obtain ⟨Y, cy, rfl, -, -, -⟩ := ho.form
  rw [toL_len] at *
  have HO5 := Lib.hid ho
  have hT5 := HT4.out.below hb5
  have hgt := HT4.out.gt
  have HB5 := Lib.hid (Below.then HB4.out hb5)
  have v0 := hT5.1.1
  have v1 := hT5.1.2
  have f0 := hT5.2 0
  have f1 := hT5.2 1
  have HOx := Lib.hid ((ho.kept (setCell_grown _ ⟨w.heap.size + 1, 0, none⟩ (.int .i64 m)) (own_ne (fun k hk => (ho.lt k hk).1) hgt)).kept (setCell_grown _ ⟨w.heap.size + 1, 1, none⟩ (.slice Y m cy)) (own_ne (fun k hk => (ho.lt k hk).1) hgt))
  have HBx := Lib.hid ((HB5.out.setCell (p := ⟨w.heap.size + 1, 0, none⟩) (show w.heap.size ≤ w.heap.size + 1 by omega) (.int .i64 m)).setCell (p := ⟨w.heap.size + 1, 1, none⟩) (show w.heap.size ≤ w.heap.size + 1 by omega) (.slice Y m cy))
  have R0 : Hid (((w5.setCell ⟨w.heap.size + 1, 0, none⟩ (.int .i64 m)).setCell ⟨w.heap.size + 1, 1, none⟩ (.slice Y m cy)).cell? ⟨w.heap.size + 1, 0, none⟩ = some (.int .i64 m)) := (World.cell?_setCell_other _ _ _ _ (by simp)).trans (World.cell?_setCell_same _ _ _ v0)
  have R1 : Hid (((w5.setCell ⟨w.heap.size + 1, 0, none⟩ (.int .i64 m)).setCell ⟨w.heap.size + 1, 1, none⟩ (.slice Y m cy)).cell? ⟨w.heap.size + 1, 1, none⟩ = some (.slice Y m cy)) := World.cell?_setCell_same _ _ _ ((World.cell?_setCell_other _ _ _ _ (by simp)).trans v1)
  have HSZ := HB4.out.size
  have HPT : Hid (ptL xs S = toL (fun a b => bt xs ((memN S 8).getD a 0) ((memN S 8).getD b 0)) m) := Lib.hid (by unfold ptL; rw [HMM.out])
  clear ho hb5 hT5 y2
  go_wp2
  have r0 := R0.out
  have r1 := R1.out
  refine bodyPost_ret (v := .tuple #[.agg #[.int .i64 m, .slice Y m cy], .bool true]) (by simp only [results, Tryz.results71]; simp [go_sem, r0, r1]) rfl ⟨Y, cy, by rw [HMM.out], by rw [HMM.out, HPT.out]; exact HOx.out.mono HSZ, HBx.out⟩
end Go.Proofs.YtbkiedhaacapbaaGreat

namespace Go.Proofs.YtbkiedhaacapbaaGreat
open Go.RowKit Go.Sort
set_option maxRecDepth 100000
theorem pt_bit (xs : List Int) (S : Nat) {a b : Nat} (ha : a < (memN S 8).length) (hb : b < (memN S 8).length) : bt (ptL xs S) a b = (!(a == b) && bt xs ((memN S 8).getD a 0) ((memN S 8).getD b 0)) := by
  unfold bt winsN
  have hg : (ptL xs S).getD a 0 = ((setOf (toQ (fun a b => bt xs ((memN S 8).getD a 0) ((memN S 8).getD b 0)) a) (memN S 8).length : Nat) : Int) := by
    unfold ptL toL; simp [ha]
  rw [hg, Int.toNat_natCast, testBit_setOf]
  simp [hb, toQ]
  rfl
theorem mem_inj {S a b : Nat} (ha : a < (memN S 8).length) (hb : b < (memN S 8).length) (hab : a ≠ b) : (memN S 8).getD a 0 ≠ (memN S 8).getD b 0 := by
  rw [getD_nat ha, getD_nat hb]
  intro e
  exact hab ((List.getElem_inj (memN_nodup S 8)).1 e)
theorem pt_tour {n : Nat} {xs : List Int} (hp : tourP n xs) {S : Nat} (h1 : 1 ≤ (memN S 8).length) (hM : ∀ b ∈ memN S 8, b < n) : tourP (memN S 8).length (ptL xs S) := by
  have hl := ptL_len xs S
  have h8 := memN_len S 8
  have hx : ∀ a, a < (memN S 8).length → (memN S 8).getD a 0 < n := fun a ha => hM _ (by rw [getD_nat ha]; exact List.getElem_mem _)
  refine tour_of_bits ⟨by omega, by omega⟩ (by rw [hl]) (fun i hi => ?_) (fun a ha => ?_) (fun a b ha hb hab => ?_)
  · rw [hl] at hi ⊢
    exact ⟨_, by unfold ptL toL; simp [hi]; rfl, setOf_lt _ _⟩
  · rw [hl] at ha
    rw [pt_bit xs S ha ha]; simp
  · rw [hl] at ha hb
    rw [pt_bit xs S ha hb, pt_bit xs S hb ha, (tr_bit hp (hx a ha) (hx b hb)).2 (mem_inj ha hb hab)]
    have e1 : (a == b) = false := by simp [hab]
    have e2 : (b == a) = false := by simp [Ne.symm hab]
    rw [e1, e2]
    simp
/-- the tour of the set's players is transitive -/
theorem pt_trans {n : Nat} {xs : List Int} (hp : tourP n xs) {S : Nat} (_h1 : 1 ≤ (memN S 8).length) (hM : ∀ b ∈ memN S 8, b < n) :
    transP (ptL xs S) (memN S 8).length ↔ ∀ x y z, x ∈ memN S 8 → y ∈ memN S 8 → z ∈ memN S 8 → bt xs x y = true → bt xs y z = true → bt xs x z = true := by
  have key : ∀ a b, a < (memN S 8).length → b < (memN S 8).length → (bt (ptL xs S) a b = true ↔ bt xs ((memN S 8).getD a 0) ((memN S 8).getD b 0) = true) := fun a b ha hb => by
    rw [pt_bit xs S ha hb]
    by_cases e : a = b
    · subst e
      have := (tr_bit hp (hM _ (by rw [getD_nat ha]; exact List.getElem_mem _) : (memN S 8).getD a 0 < n) (hM _ (by rw [getD_nat ha]; exact List.getElem_mem _))).1 rfl
      rw [this]; simp
    · simp [e]
  constructor
  · intro h x y z hx hy hz h1 h2
    obtain ⟨a, ha, rfl⟩ := List.getElem_of_mem hx
    obtain ⟨b, hb, rfl⟩ := List.getElem_of_mem hy
    obtain ⟨c, hc, rfl⟩ := List.getElem_of_mem hz
    have k1 := key a b ha hb
    have k2 := key b c hb hc
    have k3 := key a c ha hc
    rw [getD_nat ha, getD_nat hb] at k1
    rw [getD_nat hb, getD_nat hc] at k2
    rw [getD_nat ha, getD_nat hc] at k3
    exact k3.1 (h a b c ha hb hc (k1.2 h1) (k2.2 h2))
  · intro h a b c ha hb hc h1 h2
    exact (key a c ha hc).2 (h _ _ _ (by rw [getD_nat ha]; exact List.getElem_mem _) (by rw [getD_nat hb]; exact List.getElem_mem _) (by rw [getD_nat hc]; exact List.getElem_mem _) ((key a b ha hb).1 h1) ((key b c hb hc).1 h2))
def trN (xs : List Int) (S : Nat) : Bool := decide ((partsN (ptL xs S) (2 ^ (memN S 8).length - 1)).length = (memN S 8).length)
theorem trN_iff {n : Nat} {xs : List Int} (hp : tourP n xs) {S : Nat} (h1 : 1 ≤ (memN S 8).length) (hM : ∀ b ∈ memN S 8, b < n) :
    trN xs S = true ↔ ∀ x y z, x ∈ memN S 8 → y ∈ memN S 8 → z ∈ memN S 8 → bt xs x y = true → bt xs y z = true → bt xs x z = true := by
  unfold trN
  rw [decide_eq_true_eq, trans_iff (pt_tour hp h1 hM), pt_trans hp h1 hM]
set_option maxHeartbeats 2000000 in
theorem trOn_any (n : Nat) (sl : Value) (xs : List Int) (S : Nat) (w : World) (h : Rd w sl xs) (hp : tourP n xs) (h1 : 1 ≤ S) (hS : S < 2 ^ n) :
    Calls Tryz.prog 39 #[.agg #[.int .i64 n, sl], .int .i64 S] w fun e w' => e = .returned (.bool (trN xs S)) ∧ Below w.heap.size w w' := by
  have HR := Lib.hid h
  have HP := Lib.hid hp
  have HS := Lib.hid hS
  have hln := tour_len hp
  have h8 : n ≤ 8 := by have := hp.1; omega
  have hM : ∀ b ∈ memN S 8, b < n := fun b hb => bit_lt hS (mem_memN.1 hb).2
  have hm1 : 1 ≤ (memN S 8).length := by
    obtain ⟨c, hc⟩ := Nat.exists_testBit_of_ne_zero (show S ≠ 0 by omega)
    exact List.length_pos_of_mem (mem_memN.2 ⟨by have := bit_lt hS hc; omega, hc⟩)
  have HPT := Lib.hid (pt_tour hp hm1 hM)
  have HPL := Lib.hid (ptL_len xs S)
  have HTN : Hid (trN xs S = decide ((partsN (ptL xs S) (2 ^ (memN S 8).length - 1)).length = (memN S 8).length)) := rfl
  obtain ⟨A, c, rfl, -, hcm, -⟩ := h
  unfold maxLen at hcm
  rw [hln] at HR ⊢
  clear hp hln hS hM hm1
  go_enter Tryz.func39, Tryz.ntmps39
  go_wp2_with fail
  have b0 := below_alloc1 w (.cells #[.int .i64 n, .slice A n c] 25)
  have x0 := TBox.new w n (.slice A n c) 25
  generalize w.alloc (.cells #[.int .i64 n, .slice A n c] 25) = w0 at *
  have HX0 := Lib.hid x0
  have HB0 := Lib.hid b0
  clear x0 b0
  have y0_0 := HX0.out.1
  have y1_0 := HX0.out.2
  go_wp2_with fail
  refine (cPart n (.slice A n c) xs S _ (HR.out.below HB0.out) HP.out h1 HS.out).mono ?_
  rintro e w1 ⟨Y, cy, rfl, ho, hb1⟩
  generalize ptL xs S = ys at *
  generalize (memN S 8).length = m at *
  have HO1 := Lib.hid (ho.rd.below (below_alloc1 w1 (.cells #[.int .i64 m, .slice Y m cy] 25)))
  have HX1 := Lib.hid (TBox.new w1 m (.slice Y m cy) 25)
  have HB1 := Lib.hid (Below.then HB0.out (Below.then hb1 (below_alloc1 w1 (.cells #[.int .i64 m, .slice Y m cy] 25))))
  clear ho hb1 HB0 HX0 y0_0 y1_0
  go_wp2_with fail
  generalize w1.alloc (.cells #[.int .i64 m, .slice Y m cy] 25) = w2 at *
  generalize w1.heap.size = bx at *
  have y0 := HX1.out.1
  have y1 := HX1.out.2
  have BD := Lib.hid (Below.refl w2.heap.size w2).drew
  go_region_held3 (fun W => W.cell? ⟨bx, 0, none⟩ = some (.int .i64 m) ∧ W.cell? ⟨bx, 1, none⟩ = some (.slice Y m cy))
    (first | exact ⟨y0, y1⟩ | exact HX1.out.below BD.out | exact HX1.out.below BE.out)
    (first
      | (go_at_call 27; refine (parts_any m (.slice Y m cy) ys HPT.out _ (HO1.out.below BD.out)).mono ?_; rintro e w3 ⟨v3, rfl, ho3, hb3⟩; have BE := Lib.hid (Below.then BD.out hb3); obtain ⟨Z, cz, rfl, -, -, -⟩ := ho3.form; rw [nI_len]; clear ho3 hb3))
  have HB3 := Lib.hid (Below.then HB1.out BE.out)
  clear BD BE y0 y1
  go_wp2
  go_ret
  refine ⟨ret_bool ?_, HB3.out⟩
  rw [HTN.out, HPL.out]
  rw [Bool.eq_iff_iff]
  simp
  omega
end Go.Proofs.YtbkiedhaacapbaaGreat

namespace Go.Proofs.YtbkiedhaacapbaaGreat
open Go.RowKit Go.Sort

/-- the sum over the first j whom a beats -/
def pwT (xs ys : List Int) (a j : Nat) : Int := (((memN (winsN xs a) 8).take j).map fun b => ys.getD b 0).sum
def pwAt (xs ys : List Int) (a : Nat) : Int := pwT xs ys a (memN (winsN xs a) 8).length
def pwStep (xs ys : List Int) : List Int := (List.range xs.length).map (pwAt xs ys)
def pwL (xs : List Int) : Nat → List Int
  | 0 => List.replicate xs.length 1
  | k + 1 => pwStep xs (pwL xs k)
def PB (B : Int) (ys : List Int) : Prop := ∀ b : Nat, 0 ≤ ys.getD b 0 ∧ ys.getD b 0 ≤ B
theorem pwT_zero (xs ys : List Int) (a : Nat) : pwT xs ys a 0 = 0 := by simp [pwT]
theorem pwT_succ {xs ys : List Int} {a j : Nat} (h : j < (memN (winsN xs a) 8).length) : pwT xs ys a (j + 1) = pwT xs ys a j + ys.getD ((memN (winsN xs a) 8).getD j 0) 0 := by
  unfold pwT
  rw [take_snocN h, List.map_append, List.sum_append, getD_nat h]
  simp
theorem pwT_bd {xs ys : List Int} {B : Int} (hB : PB B ys) (a j : Nat) (h : j ≤ (memN (winsN xs a) 8).length) : 0 ≤ pwT xs ys a j ∧ pwT xs ys a j ≤ B * j := by
  induction j with
  | zero => simp [pwT_zero]
  | succ j ih =>
    have ih := ih (by omega)
    have hb := hB ((memN (winsN xs a) 8).getD j 0)
    rw [pwT_succ (by omega)]
    have : B * ((j + 1 : Nat) : Int) = B * j + B := by rw [Int.natCast_add, Int.mul_add]; simp
    omega
theorem pwT_bd' {xs ys : List Int} {B : Int} (hB : PB B ys) (h0 : 0 ≤ B) (h1 : B ≤ 68719476736) (a j : Nat) (h : j ≤ (memN (winsN xs a) 8).length) : 0 ≤ pwT xs ys a j ∧ pwT xs ys a j ≤ 549755813888 := by
  have h2 := pwT_bd (xs := xs) hB a j h
  have hl := memN_len (winsN xs a) 8
  have : B * (j : Int) ≤ B * 8 := Int.mul_le_mul_of_nonneg_left (by omega) h0
  omega
theorem memL_cells' {w : World} {base S k q d : Nat} {A : Option Addr} (h : Own w base (.slice A q d) (memL S k)) (hq : (memN S k).length = q) (h0 : 0 < q) :
    ∃ g off, A = some ⟨g, off, none⟩ ∧ g < w.heap.size ∧ ∀ j, j < q → w.cell? ⟨g, off + j, none⟩ = some (.int .i64 ((memN S k).getD j 0 : Nat)) := by
  obtain ⟨A', c, e, -, -, hx⟩ := memL_cells h
  injection e with e1 _ _
  subst e1
  rw [hq] at hx
  obtain ⟨g, off, e, hg, hz⟩ := hx h0
  exact ⟨g, off, e, hg, hz⟩
theorem pwAt_bd {xs ys : List Int} {B : Int} (hB : PB B ys) (h0 : 0 ≤ B) (a : Nat) : 0 ≤ pwAt xs ys a ∧ pwAt xs ys a ≤ B * 8 := by
  have h := pwT_bd (xs := xs) hB a _ (Nat.le_refl _)
  have hl := memN_len (winsN xs a) 8
  have : B * ((memN (winsN xs a) 8).length : Int) ≤ B * 8 := Int.mul_le_mul_of_nonneg_left (by omega) h0
  unfold pwAt
  omega
theorem pwStep_len (xs ys : List Int) : (pwStep xs ys).length = xs.length := by simp [pwStep]
theorem pwL_len (xs : List Int) (k : Nat) : (pwL xs k).length = xs.length := by cases k <;> simp [pwL, pwStep_len]
theorem pwStep_at {xs ys : List Int} {a : Nat} (h : a < xs.length) : (pwStep xs ys).getD a 0 = pwAt xs ys a := by simp [pwStep, h]
theorem pwL_bd (xs : List Int) (k : Nat) : PB (8 ^ k : Int) (pwL xs k) := by
  induction k with
  | zero =>
    intro b
    by_cases h : b < xs.length
    · simp [pwL, h]
    · simp [pwL, Nat.le_of_not_lt h]
  | succ k ih =>
    intro b
    have h0 : (0 : Int) ≤ 8 ^ k := Int.pow_nonneg (by decide)
    by_cases h : b < xs.length
    · rw [pwL, pwStep_at h, Int.pow_succ]
      exact pwAt_bd ih h0 b
    · have : (pwL xs (k + 1)).getD b 0 = 0 := by
        rw [List.getD_eq_getElem?_getD, List.getElem?_eq_none (by rw [pwL_len]; omega)]; rfl
      rw [this, Int.pow_succ]
      omega
theorem pw8 {k : Nat} (h : k ≤ 12) : (8 : Int) ^ k ≤ 68719476736 := by
  have : (8 : Nat) ^ k ≤ 8 ^ 12 := Nat.pow_le_pow_right (by decide) h
  have e : ((8 ^ k : Nat) : Int) = (8 : Int) ^ k := by simp
  rw [← e]
  have e2 : (8 : Nat) ^ 12 = 68719476736 := by decide
  omega
noncomputable def pwR (s : Int) (xs : List Int) (k : Int) : List Int := if (tourB s xs && inB k 0 12) = true then pwL xs k.toNat else []
theorem pwR_len (s : Int) (xs : List Int) (k : Int) : (pwR s xs k).length ≤ 8 := by
  unfold pwR
  split
  · rename_i h
    rw [Bool.and_eq_true] at h
    have := (tourB_true.1 h.1).1
    have := (tourB_true.1 h.1).2.1
    rw [pwL_len]; omega
  · simp
theorem getD_rep (n i : Nat) : (List.replicate n (0 : Int)).getD i 0 = 0 := by
  by_cases h : i < n
  · simp [h]
  · simp [Nat.le_of_not_lt h]
/-- the row that grows: done below a, the j-th partial sum at a, zeros above -/
def pwRow (xs ys N : List Int) (n a j : Nat) : Prop := ∀ i, i < n → N.getD i 0 = if i < a then pwAt xs ys i else if i = a then pwT xs ys a j else 0
theorem pwRow_start {xs ys : List Int} {n : Nat} : pwRow xs ys (List.replicate n 0) n 0 0 := fun i _ => by
  rw [getD_rep, pwT_zero]; simp
theorem pwRow_next {xs ys N : List Int} {n a : Nat} (h : pwRow xs ys N n a (memN (winsN xs a) 8).length) : pwRow xs ys N n (a + 1) 0 := fun i hi => by
  rw [h i hi, pwT_zero]
  by_cases h1 : i < a
  · rw [if_pos h1, if_pos (by omega)]
  · rw [if_neg h1]
    by_cases h2 : i = a
    · subst h2; rw [if_pos rfl, if_pos (by omega)]; rfl
    · rw [if_neg h2, if_neg (by omega)]; simp
theorem pwRow_step {xs ys N : List Int} {n a j : Nat} {v : Int} (hl : N.length = n) (h : pwRow xs ys N n a j) (ha : a < n) (hv : pwT xs ys a (j + 1) = v) : pwRow xs ys (N.set a v) n a (j + 1) := fun i hi => by
  by_cases h2 : i = a
  · subst h2
    rw [getD_set_same _ (by omega), if_neg (by omega), if_pos rfl, hv]
  · rw [getD_set_other _ (Ne.symm h2), h i hi, if_neg h2, if_neg h2]
theorem pwRow_at {xs ys N : List Int} {n a j : Nat} (h : pwRow xs ys N n a j) (ha : a < n) : N.getD a 0 = pwT xs ys a j := by
  rw [h a ha, if_neg (by omega), if_pos rfl]
theorem pwRow_end {xs ys N : List Int} {n : Nat} (hn : xs.length = n) (hl : N.length = n) (h : pwRow xs ys N n n 0) : N = pwStep xs ys :=
  list_ext0 hl (by rw [pwStep_len, hn]) fun i hi => by
    rw [h i hi, if_pos hi, pwStep_at (by omega)]
end Go.Proofs.YtbkiedhaacapbaaGreat

namespace Go.Proofs.YtbkiedhaacapbaaGreat
open Go.RowKit Go.Sort

/-- the defeats against the first t who beat a -/
def lsT (xs : List Int) (a t : Nat) : Int := (((loseN xs a xs.length).take t).map fun b => (xs.length : Int) - 1 - scN xs b).sum
def dsAt (xs : List Int) (a : Nat) : Int := pwAt xs (pwL xs 1) a - lsT xs a (loseN xs a xs.length).length
def dsL (xs : List Int) : List Int := (List.range xs.length).map (dsAt xs)
noncomputable def dsR (s : Int) (xs : List Int) : List Int := if tourB s xs = true then dsL xs else []
theorem dsR_len (s : Int) (xs : List Int) : (dsR s xs).length ≤ 8 := by
  unfold dsR
  split
  · rename_i h
    have := (tourB_true.1 h).1
    have := (tourB_true.1 h).2.1
    simp [dsL]; omega
  · simp
theorem loseN_len (xs : List Int) (a k : Nat) : (loseN xs a k).length ≤ k := by
  unfold loseN
  refine Nat.le_trans (List.length_filter_le _ _) ?_
  rw [List.length_range]; exact Nat.le_refl _
theorem sum_bd2 {l : List Nat} {F : Nat → Int} {B : Int} (h : ∀ b ∈ l, -B ≤ F b ∧ F b ≤ B) : -(B * l.length) ≤ (l.map F).sum ∧ (l.map F).sum ≤ B * l.length := by
  induction l with
  | nil => simp
  | cons b l ih =>
    have ih := ih fun c hc => h c (by simp [hc])
    have hb := h b (by simp)
    have : B * ((b :: l).length : Int) = B * (l.length : Int) + B := by rw [List.length_cons, Int.natCast_add, Int.mul_add]; simp
    rw [List.map_cons, List.sum_cons]
    omega
theorem lsT_bd {xs : List Int} (h8 : xs.length ≤ 8) (a t : Nat) : -128 ≤ lsT xs a t ∧ lsT xs a t ≤ 128 := by
  have := sum_bd2 (l := (loseN xs a xs.length).take t) (F := fun b => (xs.length : Int) - 1 - scN xs b) (B := 16) (fun b _ => by have := scN_bd xs b; omega)
  have h1 : ((loseN xs a xs.length).take t).length ≤ 8 := by rw [List.length_take]; have := loseN_len xs a xs.length; omega
  unfold lsT
  omega
theorem lsT_succ {xs : List Int} {a t : Nat} (h : t < (loseN xs a xs.length).length) : lsT xs a (t + 1) = lsT xs a t + ((xs.length : Int) - 1 - scN xs ((loseN xs a xs.length).getD t 0)) := by
  unfold lsT
  rw [take_snocN h, List.map_append, List.sum_append, getD_nat h]
  simp
theorem lsT_zero (xs : List Int) (a : Nat) : lsT xs a 0 = 0 := by simp [lsT]
theorem pw1_at {s : Int} {xs : List Int} (hp : tourP s xs) {b : Nat} (hb : b < xs.length) : (pwL xs 1).getD b 0 = scN xs b := by
  rw [show pwL xs 1 = pwStep xs (pwL xs 0) from rfl, pwStep_at hb]
  unfold pwAt pwT scN
  rw [List.take_length, pop_mem (tour_wins hp hb).2.2]
  have : ∀ c ∈ memN (winsN xs b) 8, (pwL xs 0).getD c 0 = 1 := fun c hc => by
    have := wins_mem hp hb c hc
    simp [pwL, this]
  rw [List.map_congr_left this]
  generalize memN (winsN xs b) 8 = l
  clear this
  induction l with
  | nil => rfl
  | cons c l ih => rw [List.map_cons, List.sum_cons, ih, List.length_cons]; omega
/-- the row that grows: the power scores, what is lost taken off below a, the first t at a -/
def dsRow (xs P N : List Int) (n a t : Nat) : Prop := ∀ i, i < n → N.getD i 0 = if i < a then P.getD i 0 - lsT xs i (loseN xs i xs.length).length else if i = a then P.getD a 0 - lsT xs a t else P.getD i 0
theorem dsRow_start {xs P : List Int} {n : Nat} : dsRow xs P P n 0 0 := fun i _ => by
  by_cases h : i = 0
  · subst h; simp [lsT_zero]
  · simp [h]
theorem dsRow_next {xs P N : List Int} {n a : Nat} (h : dsRow xs P N n a (loseN xs a xs.length).length) : dsRow xs P N n (a + 1) 0 := fun i hi => by
  rw [h i hi, lsT_zero]
  by_cases h1 : i < a
  · rw [if_pos h1, if_pos (by omega)]
  · rw [if_neg h1]
    by_cases h2 : i = a
    · subst h2; rw [if_pos rfl, if_pos (by omega)]
    · rw [if_neg h2, if_neg (by omega)]
      by_cases h3 : i = a + 1
      · subst h3; simp
      · rw [if_neg h3]
theorem dsRow_step {xs P N : List Int} {n a t : Nat} {v : Int} (hl : N.length = n) (h : dsRow xs P N n a t) (ha : a < n) (hv : P.getD a 0 - lsT xs a (t + 1) = v) : dsRow xs P (N.set a v) n a (t + 1) := fun i hi => by
  by_cases h2 : i = a
  · subst h2
    rw [getD_set_same _ (by omega), if_neg (by omega), if_pos rfl, hv]
  · rw [getD_set_other _ (Ne.symm h2), h i hi, if_neg h2, if_neg h2]
theorem dsRow_at {xs P N : List Int} {n a t : Nat} (h : dsRow xs P N n a t) (ha : a < n) : N.getD a 0 = P.getD a 0 - lsT xs a t := by
  rw [h a ha, if_neg (by omega), if_pos rfl]
theorem dsRow_end {xs N : List Int} {n : Nat} (hn : xs.length = n) (hl : N.length = n) (h : dsRow xs (pwL xs 2) N n n 0) : N = dsL xs :=
  list_ext0 hl (by simp [dsL, hn]) fun i hi => by
    rw [h i hi, if_pos hi, show pwL xs 2 = pwStep xs (pwL xs 1) from rfl, pwStep_at (by omega)]
    simp [dsL, dsAt, show i < xs.length by omega]
def scL (xs : List Int) (k : Nat) : List Int := (List.range k).map (scN xs)
theorem scL_succ (xs : List Int) (k : Nat) : scL xs (k + 1) = scL xs k ++ [scN xs k] := by unfold scL; rw [List.range_succ, List.map_append]; rfl
theorem scL_len (xs : List Int) (k : Nat) : (scL xs k).length = k := by simp [scL]
theorem scL_at (xs : List Int) {k b : Nat} (h : b < k) : (scL xs k).getD b 0 = scN xs b := by simp [scL, h]
end Go.Proofs.YtbkiedhaacapbaaGreat

namespace Go.Proofs.YtbkiedhaacapbaaGreat
open Go.RowKit Go.Sort
set_option maxRecDepth 100000
set_option maxHeartbeats 1000000 in
theorem scores_any (n : Nat) (sl : Value) (xs : List Int) (w : World) (h : Rd w sl xs) (hp : tourP n xs) :
    Calls Tryz.prog 28 #[.agg #[.int .i64 n, sl]] w fun e w' => ∃ A c, e = .returned (.slice A n c) ∧ Own w' w.heap.size (.slice A n c) (scL xs n) ∧ Below w.heap.size w w' := by
  have HR := Lib.hid h
  have HP := Lib.hid hp
  have hs := hp.1
  have hln : xs.length = n := by have := hp.2.1; omega
  have HLN := Lib.hid hln
  have q0 : tourB n xs = true := tourB_true.2 hp
  obtain ⟨A, c, rfl, -, hcm, -⟩ := h
  unfold maxLen at hcm
  rw [hln] at HR ⊢
  clear hln hp
  go_enter Tryz.func28, Tryz.ntmps28
  go_wp2_with fail
  have b0 := below_alloc1 w (.cells #[.int .i64 n, .slice A n c] 25)
  have x0 := TBox.new w n (.slice A n c) 25
  generalize w.alloc (.cells #[.int .i64 n, .slice A n c] 25) = w0 at *
  have HX0 := Lib.hid x0
  have HB0 := Lib.hid b0
  clear x0 b0
  have y0_0 := HX0.out.1
  have y1_0 := HX0.out.2
  go_wp2_with fail
  refine (implTourOk n _ xs _ (HR.out.below HB0.out)).mono ?_
  rintro e w1 ⟨rfl, hb⟩
  have HX1 := Lib.hid (HX0.out.below hb)
  have HB1 := Lib.hid (Below.then HB0.out hb)
  clear hb HX0 HB0 y0_0 y1_0
  have y0_1 := HX1.out.1
  have y1_1 := HX1.out.2
  rw [q0]
  go_wp2
  go_loopw [3, 10] (fun v i wr => ∃ (a : Nat), a ≤ n ∧ i = .int .i64 a ∧ Hid (Own wr (w.heap.size + 1) v (scL xs a)) ∧ Hid (TBox wr w.heap.size n (.slice A n c)) ∧ Hid (Below w.heap.size w wr)) (fun _ i _ => n - (intOf i).toNat)
  case atStart => exact ⟨0, by omega, rfl, Lib.hid (by simpa [scL] using Own.nil_ _ _), HX1, HB1⟩
  case round =>
    obtain ⟨a, ha, rfl, HOa, HX, HBa⟩ := hrel
    clear HX1 HB1 y0_1 y1_1
    by_cases hlt : a < n
    · have y0 := HX.out.1
      have y1 := HX.out.2
      have HMS := Lib.hid (scL_succ xs a)
      have hSC : Hid (((popN 8 (winsN xs a) : Nat) : Int) = scN xs a) := rfl
      have hsc := scN_bd xs a
      go_wp2_with fail
      refine (score_any n (.slice A n c) xs a _ (HR.out.below HBa.out) HP.out (by have := HLN.out; omega)).mono ?_
      rintro e w5 ⟨rfl, hb5⟩
      rw [hSC.out]
      clear hSC
      have HX5 := Lib.hid (HX.out.below hb5)
      have HO5 := Lib.hid (HOa.out.below hb5)
      have HB5 := Lib.hid (Below.then HBa.out hb5)
      clear hb5 HX HOa HBa y0 y1
      have hlen := scL_len xs a
      have hsz := HB5.out.size
      have ho := HO5.out
      generalize scN xs a = y at *
      generalize scL xs a = X at *
      have hgt := World.block_lt_of_cell? _ _ HX5.out.1
      simp only at hgt
      go_wp2_with (at_builtin; refine wp_append1 _ rfl (.tmp 13) (.tmp 17) rfl (w.heap.size + 1) _ _ _ rfl ho (by simp [Act.eval]) (by omega) (by exact hgt) ?_; intro v' w7 hown1 hg1; have HO7 := Lib.hid hown1; have HB7 := Lib.hid (below_append HB5.out hg1 ho (by omega) hgt); have HX7 := Lib.hid (HX5.out.kept hg1 (nb_ne (own_ne (fun k hk => (ho.lt k hk).1) (by omega)))); clear hown1 hg1)
      go_roundw
      case rel => exact ⟨a + 1, by omega, by go_num, by rw [HMS.out]; exact HO7, HX7, HB7⟩
      case measure => simp [intOf]; omega
    · obtain rfl : n = a := by omega
      go_wp2
      obtain ⟨Y, cy, rfl, -, -, -⟩ := HOa.out.form
      rw [scL_len] at *
      go_ret
      exact ⟨Y, cy, rfl, HOa.out.mono (by omega), HBa.out⟩
end Go.Proofs.YtbkiedhaacapbaaGreat

namespace Go.Proofs.YtbkiedhaacapbaaGreat
open Go.RowKit Go.Sort
set_option maxRecDepth 100000
variable {n : Nat} {xs : List Int} {sl : Value} {w : World}
/-- the reversed tour -/
def trnL (xs : List Int) (n : Nat) : List Int := toL (fun a b => bt xs b a) n
theorem turn_bt {p : Nat → Nat → Bool} {a b : Nat} (ha : a < n) (hb : b < n) : bt (toL p n) a b = toQ p a b := by
  have e : (toL p n).getD a 0 = ((setOf (toQ p a) n : Nat) : Int) := by unfold toL; simp [List.getD_eq_getElem?_getD, ha]
  unfold bt winsN
  rw [e, Int.toNat_natCast, testBit_setOf, decide_eq_true hb, Bool.true_and]
theorem trnL_bt (hp : tourP n xs) {a b : Nat} (ha : a < n) (hb : b < n) : bt (trnL xs n) a b = bt xs b a := by
  unfold trnL
  rw [turn_bt ha hb]
  unfold toQ
  by_cases e : a = b
  · subst e; rw [(tr_bit hp ha ha).1 rfl]; simp
  · rw [show (a == b) = false by simpa using e]; rfl
theorem trnL_tour (hp : tourP n xs) : tourP n (trnL xs n) := by
  have hl : (trnL xs n).length = n := toL_len _ _
  refine tour_of_bits hp.1 (by rw [hl]) (fun i hi => ?_) (fun a ha => ?_) (fun a b ha hb hab => ?_)
  · rw [hl] at hi ⊢
    exact ⟨setOf (toQ (fun a b => bt xs b a) i) n, by unfold trnL toL; simp [List.getD_eq_getElem?_getD, hi], setOf_lt _ _⟩
  · rw [hl] at ha
    rw [trnL_bt hp ha ha, (tr_bit hp ha ha).1 rfl]
  · rw [hl] at ha hb
    rw [trnL_bt hp ha hb, trnL_bt hp hb ha]
    exact (tr_bit hp hb ha).2 (Ne.symm hab)
end Go.Proofs.YtbkiedhaacapbaaGreat

