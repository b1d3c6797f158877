/- Texts put together: CallS, TgW, ScsOf, Way, Perm, HTk, TgV, TgU. -/
import Derived.Test.YthoodjjjklbggaaGreatDoorMTriangles01
import Derived.Deep.RegionLaw
import Derived.Test.YthoodjjjklbggaaGreatDoorMTriangles07
import Derived.Test.YthoodjjjklbggaaGreatDoorMTriangles09
import Derived.Test.YthoodjjjklbggaaGreatDoorMTriangles03
import Derived.Test.YthoodjjjklbggaaGreatDoorMTriangles02
import Derived.Deep.RegionHeld3
import Derived.Deep.DeepCutAuto
namespace Go.Proofs.YthoodjjjklbggaaGreatDoor
open Go.RowKit Go.Sort
set_option maxRecDepth 100000
theorem step_call {ops : Array Oper} {o : Oper} {a : Act} {K : Act → World → Prop} {Q : Exit → Act → World → Prop} {E : Prop} (w : World) (hgd : o.guard = none) (f : FuncId) (args : Array Operand) (tys : Array TypeId)
    (ho : o.op = .call { callee := .value (.func f), args := args, argTypes := tys }) (vals : Array Value) (hargs : args.map a.eval = vals)
    (hE : ∀ (args : Array Value) (W : World), (callFunc f args).run Tryz.prog W = .ok (.enter f args) W)
    (h : Calls Tryz.prog f vals w fun e w' => ∃ v, e = .returned v ∧ K (a.put o.dst v) w') :
    if Region.wanted o (yielded ops a.tmps) = true then Oper.wp Tryz.prog o a w K Q else E := by
  have hw : Region.wanted o (yielded ops a.tmps) = true := by simp [Region.wanted, hgd]
  rw [if_pos hw]
  have hr : (execOp a.eval o).run Tryz.prog w = .ok (.enter f vals) w := by
    unfold execOp
    simp only [ho, resolve, invoke, Sem.run_bind, hargs]
    simp [go_sem, Act.eval, Deferred.ofValue, hE]
  unfold Oper.wp
  rw [hr, Oper.upon_enter]
  exact h.mono fun e w' ⟨v, he, hk⟩ => by subst he; exact hk
def accI (xs : List Int) (k : Nat) : Int := (xs.take k).sum
theorem accI_succ (xs : List Int) {k : Nat} (h : k < xs.length) : accI xs (k + 1) = accI xs k + xs.getD k 0 := by
  unfold accI
  rw [List.take_succ_eq_append_getElem h, List.sum_append, show xs.getD k 0 = xs[k] by simp [h]]
  simp
theorem accI_bd (xs : List Int) (B : Nat) (h : ∀ x ∈ xs, -(B : Int) ≤ x ∧ x ≤ B) : ∀ k, k ≤ xs.length → -((B * k : Nat) : Int) ≤ accI xs k ∧ accI xs k ≤ ((B * k : Nat) : Int) := by
  intro k
  induction k with
  | zero => intro _; simp [accI]
  | succ k ih =>
    intro hk
    have h1 := ih (by omega)
    have h2 := h (xs.getD k 0) (by rw [show xs.getD k 0 = xs[k] by simp [show k < xs.length by omega]]; exact List.getElem_mem _)
    rw [accI_succ xs (by omega), Nat.mul_succ]
    push_cast at *
    omega
end Go.Proofs.YthoodjjjklbggaaGreatDoor

namespace Go.Proofs.YthoodjjjklbggaaGreatDoor
open Go.RowKit Go.Sort
set_option maxRecDepth 100000
variable {n : Nat} {xs : List Int} {sl : Value} {w : World}
theorem rd_three {w : World} {u : Value} {a b c : Int} (h : Rd w u [a, b, c]) : ∃ g off d, u = .slice (some ⟨g, off, none⟩) 3 d ∧ 3 ≤ d ∧ d ≤ maxLen ∧ w.cell? ⟨g, off, none⟩ = some (.int .i64 a) ∧ w.cell? ⟨g, off + 1, none⟩ = some (.int .i64 b) ∧ w.cell? ⟨g, off + 2, none⟩ = some (.int .i64 c) ∧ g < w.heap.size := by
  obtain ⟨A', c', e, h1, h2, hx⟩ := h
  obtain ⟨g, off, rfl, hg, hk⟩ := hx (by simp)
  exact ⟨g, off, c', e, h1, h2, hk 0 (by simp), hk 1 (by simp), hk 2 (by simp), hg⟩
theorem BoxF.gt' {W : World} {g : Nat} {s : Int} {v : Value} (h : BoxF W (g + 1) s v) : g < W.heap.size := by have := h.gt; omega
set_option maxHeartbeats 8000000 in
theorem cTurned (hp : tourP n xs) (h : Rd w sl xs) {a b c : Nat} (ha : a < n) (hb : b < n) (hc : c < n) (hab : a ≠ b) (hbc : b ≠ c) (hac : a ≠ c) {lv : Value} (hl : Rd w lv [(a : Int), (b : Int), (c : Int)]) :
    Calls Tryz.prog 29 #[.agg #[.int .i64 n, sl], lv] w fun e w' => ∃ Y cy, e = .returned (.agg #[.int .i64 n, .slice Y n cy]) ∧ Own w' w.heap.size (.slice Y n cy) (rv3 xs a b c) ∧ Below w.heap.size w w' := by
  have HR := Lib.hid h
  have h1 : 1 ≤ n := by have := hp.1; omega
  obtain ⟨A, cA, rfl, -, -, -⟩ := h
  rw [tour_len hp] at *
  have HP := Lib.hid hp
  have HP1 := Lib.hid (flip_tourN hp ha hb hab)
  have HP2 := Lib.hid (flip_tourN (flip_tourN hp ha hb hab) hb hc hbc)
  have HP3 := Lib.hid (rv3_tour hp ha hb hc hab hbc hac)
  have HRV : Hid (rv3 xs a b c = flipL (flipL (flipL xs a b) b c) c a) := Lib.hid rfl
  clear hp
  have HLV := Lib.hid hl
  obtain ⟨lg, lo, ld, rfl, hld, hlm, hz0, hz1, hz2, hlg⟩ := rd_three hl
  clear hl
  go_enter Tryz.func29, Tryz.ntmps29
  go_wp2_with fail
  have b0 := (below_alloc1 w (.cells #[.int .i64 n, .slice A n cA] 25)).alloc (by simp) (.cells #[.int .i64 0, .slice none 0 0] 25)
  have x0 := (TBox.new w n (.slice A n cA) 25).below (below_alloc1 _ (.cells #[.int .i64 0, .slice none 0 0] 25))
  have t0 := BoxF.new (w.alloc (.cells #[.int .i64 n, .slice A n cA] 25)) 0 (.slice none 0 0) 25
  simp only [World.size_alloc] at t0
  generalize (w.alloc (.cells #[.int .i64 n, .slice A n cA] 25)).alloc (.cells #[.int .i64 0, .slice none 0 0] 25) = w0 at *
  have HX0 := Lib.hid x0
  have HB0 := Lib.hid b0
  have HT0 := Lib.hid t0
  clear x0 b0 t0
  have y0_0 := HX0.out.1
  have y1_0 := HX0.out.2
  have z0 := (HB0.out.cell (p := ⟨lg, lo, none⟩) hlg).trans hz0
  have z1 := (HB0.out.cell (p := ⟨lg, lo + 1, none⟩) hlg).trans hz1
  have z2 := (HB0.out.cell (p := ⟨lg, lo + 2, none⟩) hlg).trans hz2
  have hlw : lg < w0.heap.size := Nat.lt_of_lt_of_le hlg HB0.out.size
  clear hz0 hz1 hz2
  have y0 := HX0.out.1
  have y1 := HX0.out.2
  have hEF : ∀ (args : Array Value) (W : World), (callFunc 62 args).run Tryz.prog W = .ok (.enter 62 args) W := fun args W => by kernel_rfl
  have KS : Hid (∀ W, Below w0.heap.size w0 W → (W.cell? ⟨w.heap.size, 0, none⟩ = some (.int .i64 n) ∧ W.cell? ⟨w.heap.size, 1, none⟩ = some (.slice A n cA) ∧ W.cell? ⟨lg, lo, none⟩ = some (.int .i64 a) ∧ W.cell? ⟨lg, lo + 1, none⟩ = some (.int .i64 b) ∧ W.cell? ⟨lg, lo + 2, none⟩ = some (.int .i64 c))) := Lib.hid fun W hW => ⟨(HX0.out.below hW).1, (HX0.out.below hW).2, (hW.cell (p := ⟨lg, lo, none⟩) hlw).trans z0, (hW.cell (p := ⟨lg, lo + 1, none⟩) hlw).trans z1, (hW.cell (p := ⟨lg, lo + 2, none⟩) hlw).trans z2⟩
  go_wp2_with fail
  have BD : Below w0.heap.size w0 w0.drew := (Below.refl _ _).drew
  refine wp_region_heldT 22 (fun W => W.cell? ⟨w.heap.size, 0, none⟩ = some (.int .i64 n) ∧ W.cell? ⟨w.heap.size, 1, none⟩ = some (.slice A n cA) ∧ W.cell? ⟨lg, lo, none⟩ = some (.int .i64 a) ∧ W.cell? ⟨lg, lo + 1, none⟩ = some (.int .i64 b) ∧ W.cell? ⟨lg, lo + 2, none⟩ = some (.int .i64 c)) (by kernel_rfl) (by kernel_rfl) (KS.out _ BD) (fun hS0 => ?_)
  refine GoT.take (i := 0) (v := ?v0_1) rfl (by kernel_rfl) (by rfl) (by kernel_rfl) (by kernel_rfl) (fun _ _ _ h => h) (Or.inl ⟨by rfl, ?hy0_1⟩) hS0 ?rest0_1
  case hy0_1 =>
    intro W hSw
    (try dsimp only at hSw)
    go_simp
    first | done | (with_reducible rfl)
  try simp only [Act.put, List.setIfInBounds_toArray, List.set_cons_zero, List.set_cons_succ]
  refine GoT.take (i := 1) (v := ?v1_2) rfl (by kernel_rfl) (by rfl) (by kernel_rfl) (by kernel_rfl) (fun _ _ _ h => h) (Or.inl ⟨by rfl, ?hy1_2⟩) hS0 ?rest1_2
  case hy1_2 =>
    intro W hSw
    (try dsimp only at hSw)
    go_simp
    first | done | (with_reducible rfl)
  try simp only [Act.put, List.setIfInBounds_toArray, List.set_cons_zero, List.set_cons_succ]
  refine GoT.take (i := 2) (v := ?v2_3) rfl (by kernel_rfl) (by rfl) (by kernel_rfl) (by kernel_rfl) (fun _ _ _ h => h) (Or.inl ⟨by rfl, ?hy2_3⟩) hS0 ?rest2_3
  case hy2_3 =>
    intro W hSw
    (try dsimp only at hSw)
    go_simp
    first | done | (with_reducible rfl)
  try simp only [Act.put, List.setIfInBounds_toArray, List.set_cons_zero, List.set_cons_succ]
  refine GoT.take (i := 3) (v := ?v3_4) rfl (by kernel_rfl) (by rfl) (by kernel_rfl) (by kernel_rfl) (fun _ _ _ h => h) (Or.inl ⟨by rfl, ?hy3_4⟩) hS0 ?rest3_4
  case hy3_4 =>
    intro W hSw
    (try dsimp only at hSw)
    go_simp
    first | done | (with_reducible rfl)
  try simp only [Act.put, List.setIfInBounds_toArray, List.set_cons_zero, List.set_cons_succ]
  refine GoT.take (i := 4) (v := ?v4_5) rfl (by kernel_rfl) (by rfl) (by kernel_rfl) (by kernel_rfl) (fun _ _ _ h => h) (Or.inl ⟨by rfl, ?hy4_5⟩) hS0 ?rest4_5
  case hy4_5 =>
    intro W hSw
    (try dsimp only at hSw)
    go_simp
    first | done | (with_reducible rfl)
  try simp only [Act.put, List.setIfInBounds_toArray, List.set_cons_zero, List.set_cons_succ]
  refine GoT.take (i := 5) (v := ?v5_6) rfl (by kernel_rfl) (by rfl) (by kernel_rfl) (by kernel_rfl) (fun _ _ _ h => h) (Or.inl ⟨by rfl, ?hy5_6⟩) hS0 ?rest5_6
  case hy5_6 =>
    intro W hSw
    (try dsimp only at hSw)
    go_simp
    first | done | (with_reducible rfl)
  try simp only [Act.put, List.setIfInBounds_toArray, List.set_cons_zero, List.set_cons_succ]
  refine GoT.take (i := 6) (v := ?v6_7) rfl (by kernel_rfl) (by rfl) (by kernel_rfl) (by kernel_rfl) (fun _ _ _ h => h) (Or.inl ⟨by rfl, ?hy6_7⟩) hS0 ?rest6_7
  case hy6_7 =>
    intro W hSw
    (try dsimp only at hSw)
    go_simp
    first | done | (with_reducible rfl)
  try simp only [Act.put, List.setIfInBounds_toArray, List.set_cons_zero, List.set_cons_succ]
  refine GoT.take (i := 8) (v := ?v8_8) rfl (by kernel_rfl) (by rfl) (by kernel_rfl) (by kernel_rfl) (fun _ _ _ h => h) (Or.inl ⟨by rfl, ?hy8_8⟩) hS0 ?rest8_8
  case hy8_8 =>
    intro W hSw
    (try dsimp only at hSw)
    go_simp
    first | done | (with_reducible rfl)
  try simp only [Act.put, List.setIfInBounds_toArray, List.set_cons_zero, List.set_cons_succ]
  refine GoT.take (i := 9) (v := ?v9_9) rfl (by kernel_rfl) (by rfl) (by kernel_rfl) (by kernel_rfl) (fun _ _ _ h => h) (Or.inl ⟨by rfl, ?hy9_9⟩) hS0 ?rest9_9
  case hy9_9 =>
    intro W hSw
    (try dsimp only at hSw)
    go_simp
    first | done | (with_reducible rfl)
  try simp only [Act.put, List.setIfInBounds_toArray, List.set_cons_zero, List.set_cons_succ]
  refine GoT.take (i := 10) (v := ?v10_10) rfl (by kernel_rfl) (by rfl) (by kernel_rfl) (by kernel_rfl) (fun _ _ _ h => h) (Or.inl ⟨by rfl, ?hy10_10⟩) hS0 ?rest10_10
  case hy10_10 =>
    intro W hSw
    (try dsimp only at hSw)
    go_simp
    first | done | (with_reducible rfl)
  try simp only [Act.put, List.setIfInBounds_toArray, List.set_cons_zero, List.set_cons_succ]
  refine GoT.take (i := 11) (v := ?v11_11) rfl (by kernel_rfl) (by rfl) (by kernel_rfl) (by kernel_rfl) (fun _ _ _ h => h) (Or.inl ⟨by rfl, ?hy11_11⟩) hS0 ?rest11_11
  case hy11_11 =>
    intro W hSw
    (try dsimp only at hSw)
    go_simp
    first | done | (with_reducible rfl)
  try simp only [Act.put, List.setIfInBounds_toArray, List.set_cons_zero, List.set_cons_succ]
  refine GoT.take (i := 12) (v := ?v12_12) rfl (by kernel_rfl) (by rfl) (by kernel_rfl) (by kernel_rfl) (fun _ _ _ h => h) (Or.inl ⟨by rfl, ?hy12_12⟩) hS0 ?rest12_12
  case hy12_12 =>
    intro W hSw
    (try dsimp only at hSw)
    go_simp
    first | done | (with_reducible rfl)
  try simp only [Act.put, List.setIfInBounds_toArray, List.set_cons_zero, List.set_cons_succ]
  refine GoT.take (i := 13) (v := ?v13_13) rfl (by kernel_rfl) (by rfl) (by kernel_rfl) (by kernel_rfl) (fun _ _ _ h => h) (Or.inl ⟨by rfl, ?hy13_13⟩) hS0 ?rest13_13
  case hy13_13 =>
    intro W hSw
    (try dsimp only at hSw)
    go_simp
    first | done | (with_reducible rfl)
  try simp only [Act.put, List.setIfInBounds_toArray, List.set_cons_zero, List.set_cons_succ]
  refine GoT.take (i := 15) (v := ?v15_14) rfl (by kernel_rfl) (by rfl) (by kernel_rfl) (by kernel_rfl) (fun _ _ _ h => h) (Or.inl ⟨by rfl, ?hy15_14⟩) hS0 ?rest15_14
  case hy15_14 =>
    intro W hSw
    (try dsimp only at hSw)
    go_simp
    first | done | (with_reducible rfl)
  try simp only [Act.put, List.setIfInBounds_toArray, List.set_cons_zero, List.set_cons_succ]
  refine GoT.take (i := 16) (v := ?v16_15) rfl (by kernel_rfl) (by rfl) (by kernel_rfl) (by kernel_rfl) (fun _ _ _ h => h) (Or.inl ⟨by rfl, ?hy16_15⟩) hS0 ?rest16_15
  case hy16_15 =>
    intro W hSw
    (try dsimp only at hSw)
    go_simp
    first | done | (with_reducible rfl)
  try simp only [Act.put, List.setIfInBounds_toArray, List.set_cons_zero, List.set_cons_succ]
  refine GoT.take (i := 17) (v := ?v17_16) rfl (by kernel_rfl) (by rfl) (by kernel_rfl) (by kernel_rfl) (fun _ _ _ h => h) (Or.inl ⟨by rfl, ?hy17_16⟩) hS0 ?rest17_16
  case hy17_16 =>
    intro W hSw
    (try dsimp only at hSw)
    go_simp
    first | done | (with_reducible rfl)
  try simp only [Act.put, List.setIfInBounds_toArray, List.set_cons_zero, List.set_cons_succ]
  refine GoT.take (i := 18) (v := ?v18_17) rfl (by kernel_rfl) (by rfl) (by kernel_rfl) (by kernel_rfl) (fun _ _ _ h => h) (Or.inl ⟨by rfl, ?hy18_17⟩) hS0 ?rest18_17
  case hy18_17 =>
    intro W hSw
    (try dsimp only at hSw)
    go_simp
    first | done | (with_reducible rfl)
  try simp only [Act.put, List.setIfInBounds_toArray, List.set_cons_zero, List.set_cons_succ]
  refine GoT.take (i := 19) (v := ?v19_18) rfl (by kernel_rfl) (by rfl) (by kernel_rfl) (by kernel_rfl) (fun _ _ _ h => h) (Or.inl ⟨by rfl, ?hy19_18⟩) hS0 ?rest19_18
  case hy19_18 =>
    intro W hSw
    (try dsimp only at hSw)
    go_simp
    first | done | (with_reducible rfl)
  try simp only [Act.put, List.setIfInBounds_toArray, List.set_cons_zero, List.set_cons_succ]
  refine GoT.take (i := 20) (v := ?v20_19) rfl (by kernel_rfl) (by rfl) (by kernel_rfl) (by kernel_rfl) (fun _ _ _ h => h) (Or.inl ⟨by rfl, ?hy20_19⟩) hS0 ?rest20_19
  case hy20_19 =>
    intro W hSw
    (try dsimp only at hSw)
    go_simp
    first | done | (with_reducible rfl)
  try simp only [Act.put, List.setIfInBounds_toArray, List.set_cons_zero, List.set_cons_succ]
  refine GoT.one (i := 7) rfl (by rfl) (by kernel_rfl) (fun K hK => ?_)
  refine step_call w0.drew (by rfl) 62 #[.tmp 5, .tmp 8, .tmp 11] _ (by rfl) #[.agg #[.int .i64 n, .slice A n cA], .int .i64 a, .int .i64 b] (by simp [Act.eval]) hEF ((cFlipped HP.out (HR.out.below (Below.then HB0.out BD)) a b ha hb).mono ?_)
  rintro e w1 ⟨A1, d1, rfl, ho1, hb1⟩
  refine ⟨_, rfl, ?_⟩
  have B1 := Below.then BD hb1
  have HF1 := Lib.hid ho1.rd
  clear ho1 hb1
  refine hK.out _ _ (KS.out _ B1) (fun hS1 => ?_)
  clear hK K
  simp only [Act.put, List.setIfInBounds_toArray, List.set_cons_zero, List.set_cons_succ]
  refine GoT.one (i := 14) rfl (by rfl) (by kernel_rfl) (fun K hK => ?_)
  refine step_call w1 (by rfl) 62 #[.tmp 12, .tmp 15, .tmp 18] _ (by rfl) #[.agg #[.int .i64 n, .slice A1 n d1], .int .i64 b, .int .i64 c] (by simp [Act.eval]) hEF ((cFlipped HP1.out HF1.out b c hb hc).mono ?_)
  rintro e w2 ⟨A2, d2, rfl, ho2, hb2⟩
  refine ⟨_, rfl, ?_⟩
  have B2 := Below.then B1 hb2
  have HF2 := Lib.hid ho2.rd
  clear ho2 hb2
  refine hK.out _ _ (KS.out _ B2) (fun hS2 => ?_)
  clear hK K
  simp only [Act.put, List.setIfInBounds_toArray, List.set_cons_zero, List.set_cons_succ]
  refine GoT.one (i := 21) rfl (by rfl) (by kernel_rfl) (fun K hK => ?_)
  refine step_call w2 (by rfl) 62 #[.tmp 19, .tmp 22, .tmp 25] _ (by rfl) #[.agg #[.int .i64 n, .slice A2 n d2], .int .i64 c, .int .i64 a] (by simp [Act.eval]) hEF ((cFlipped HP2.out HF2.out c a hc ha).mono ?_)
  rintro e w3 ⟨A3, d3, rfl, ho3, hb3⟩
  refine ⟨_, rfl, ?_⟩
  rw [← HRV.out] at ho3
  have B3 := Below.then B2 hb3
  have hsz2 : w.heap.size < w2.heap.size := Nat.lt_of_lt_of_le HT0.out.gt' B2.size
  have HF3 := Lib.hid ho3
  clear ho3 hb3
  refine hK.out _ _ (KS.out _ B3) (fun hS3 => ?_)
  clear hK K
  simp only [Act.put, List.setIfInBounds_toArray, List.set_cons_zero, List.set_cons_succ]
  refine GoT.stop (by kernel_rfl) ?_
  have HT3 := Lib.hid (HT0.out.below B3)
  have HB3 := Lib.hid (Below.then HB0.out B3)
  have v0 := HT3.out.1.1
  have v1 := HT3.out.1.2
  have f0 := HT3.out.2 0
  have f1 := HT3.out.2 1
  have hgt2 : w.heap.size + 1 < w2.heap.size := Nat.lt_of_lt_of_le HT0.out.gt B2.size
  have HOx := Lib.hid (((HF3.out.kept (setCell_grown _ ⟨w.heap.size + 1, 0, none⟩ (.int .i64 n)) (own_ne (fun k hk => (HF3.out.lt k hk).1) hgt2)).kept (setCell_grown _ ⟨w.heap.size + 1, 1, none⟩ (.slice A3 n d3)) (own_ne (fun k hk => (HF3.out.lt k hk).1) hgt2)))
  have HBx := Lib.hid ((HB3.out.setCell (p := ⟨w.heap.size + 1, 0, none⟩) (show w.heap.size ≤ w.heap.size + 1 by omega) (.int .i64 n)).setCell (p := ⟨w.heap.size + 1, 1, none⟩) (show w.heap.size ≤ w.heap.size + 1 by omega) (.slice A3 n d3))
  have R0 : Hid (((w3.setCell ⟨w.heap.size + 1, 0, none⟩ (.int .i64 n)).setCell ⟨w.heap.size + 1, 1, none⟩ (.slice A3 n d3)).cell? ⟨w.heap.size + 1, 0, none⟩ = some (.int .i64 n)) := (World.cell?_setCell_other _ _ _ _ (by simp)).trans (World.cell?_setCell_same _ _ _ v0)
  have R1 : Hid (((w3.setCell ⟨w.heap.size + 1, 0, none⟩ (.int .i64 n)).setCell ⟨w.heap.size + 1, 1, none⟩ (.slice A3 n d3)).cell? ⟨w.heap.size + 1, 1, none⟩ = some (.slice A3 n d3)) := World.cell?_setCell_same _ _ _ ((World.cell?_setCell_other _ _ _ _ (by simp)).trans v1)
  have hsz : w.heap.size ≤ w2.heap.size := Nat.le_of_lt hsz2
  clear KS hS0 hS1 hS2 hS3 HF3 HT3 HB3 HF1 HF2 z0 z1 z2 y0 y1
  simp only [List.drop_succ_cons, List.drop_zero]
  go_wp2
  have r0 := R0.out
  have r1 := R1.out
  refine bodyPost_ret (v := .agg #[.int .i64 n, .slice A3 n d3]) (by simp only [results, Tryz.results29]; simp [go_sem, r0, r1]) rfl ⟨_, _, rfl, HOx.out.mono hsz, HBx.out⟩
theorem cFlipS (hp : tourP n xs) (h : Rd w sl xs) (a b : Nat) (ha : a < n) (hb : b < n) : Calls Tryz.prog 55 #[.agg #[.int .i64 n, sl], .int .i64 a, .int .i64 b] w fun e w' => ∃ A c, e = .returned (.agg #[.int .i64 n, .slice A n c]) ∧ Own w' w.heap.size (.slice A n c) (flipL xs a b) ∧ Below w.heap.size w w' :=
  (l02Flip_any n sl xs a b w h (by rw [tour_len hp]; have := hp.1; omega) (by rw [tour_len hp]; exact ha) (by rw [tour_len hp]; exact hb)).mono fun e w' ⟨v, h1, h2, h3⟩ => by
    obtain ⟨A, c, rfl, -⟩ := h2.form
    rw [flipL_len, tour_len hp] at h1 h2
    exact ⟨A, c, h1, h2, h3⟩
set_option maxHeartbeats 8000000 in
theorem cReverseS (hp : tourP n xs) (h : Rd w sl xs) {a b c : Nat} (ha : a < n) (hb : b < n) (hc : c < n) (hab : a ≠ b) (hbc : b ≠ c) (hac : a ≠ c) {lv : Value} (hl : Rd w lv [(a : Int), (b : Int), (c : Int)]) :
    Calls Tryz.prog 39 #[.agg #[.int .i64 n, sl], lv] w fun e w' => ∃ Y cy, e = .returned (.agg #[.int .i64 n, .slice Y n cy]) ∧ Own w' w.heap.size (.slice Y n cy) (rv3 xs a b c) ∧ Below w.heap.size w w' := by
  have HR := Lib.hid h
  have h1 : 1 ≤ n := by have := hp.1; omega
  obtain ⟨A, cA, rfl, -, -, -⟩ := h
  rw [tour_len hp] at *
  have HP := Lib.hid hp
  have HP1 := Lib.hid (flip_tourN hp ha hb hab)
  have HP2 := Lib.hid (flip_tourN (flip_tourN hp ha hb hab) hb hc hbc)
  have HP3 := Lib.hid (rv3_tour hp ha hb hc hab hbc hac)
  have HRV : Hid (rv3 xs a b c = flipL (flipL (flipL xs a b) b c) c a) := Lib.hid rfl
  clear hp
  have HLV := Lib.hid hl
  obtain ⟨lg, lo, ld, rfl, hld, hlm, hz0, hz1, hz2, hlg⟩ := rd_three hl
  clear hl
  go_enter Tryz.func39, Tryz.ntmps39
  go_wp2_with fail
  have b0 := (below_alloc1 w (.cells #[.int .i64 n, .slice A n cA] 25)).alloc (by simp) (.cells #[.int .i64 0, .slice none 0 0] 25)
  have x0 := (TBox.new w n (.slice A n cA) 25).below (below_alloc1 _ (.cells #[.int .i64 0, .slice none 0 0] 25))
  have t0 := BoxF.new (w.alloc (.cells #[.int .i64 n, .slice A n cA] 25)) 0 (.slice none 0 0) 25
  simp only [World.size_alloc] at t0
  generalize (w.alloc (.cells #[.int .i64 n, .slice A n cA] 25)).alloc (.cells #[.int .i64 0, .slice none 0 0] 25) = w0 at *
  have HX0 := Lib.hid x0
  have HB0 := Lib.hid b0
  have HT0 := Lib.hid t0
  clear x0 b0 t0
  have y0_0 := HX0.out.1
  have y1_0 := HX0.out.2
  have z0 := (HB0.out.cell (p := ⟨lg, lo, none⟩) hlg).trans hz0
  have z1 := (HB0.out.cell (p := ⟨lg, lo + 1, none⟩) hlg).trans hz1
  have z2 := (HB0.out.cell (p := ⟨lg, lo + 2, none⟩) hlg).trans hz2
  have hlw : lg < w0.heap.size := Nat.lt_of_lt_of_le hlg HB0.out.size
  clear hz0 hz1 hz2
  have y0 := HX0.out.1
  have y1 := HX0.out.2
  have hEF : ∀ (args : Array Value) (W : World), (callFunc 55 args).run Tryz.prog W = .ok (.enter 55 args) W := fun args W => by kernel_rfl
  have KS : Hid (∀ W, Below w0.heap.size w0 W → (W.cell? ⟨w.heap.size, 0, none⟩ = some (.int .i64 n) ∧ W.cell? ⟨w.heap.size, 1, none⟩ = some (.slice A n cA) ∧ W.cell? ⟨lg, lo, none⟩ = some (.int .i64 a) ∧ W.cell? ⟨lg, lo + 1, none⟩ = some (.int .i64 b) ∧ W.cell? ⟨lg, lo + 2, none⟩ = some (.int .i64 c))) := Lib.hid fun W hW => ⟨(HX0.out.below hW).1, (HX0.out.below hW).2, (hW.cell (p := ⟨lg, lo, none⟩) hlw).trans z0, (hW.cell (p := ⟨lg, lo + 1, none⟩) hlw).trans z1, (hW.cell (p := ⟨lg, lo + 2, none⟩) hlw).trans z2⟩
  go_wp2_with fail
  have BD : Below w0.heap.size w0 w0.drew := (Below.refl _ _).drew
  refine wp_region_heldT 22 (fun W => W.cell? ⟨w.heap.size, 0, none⟩ = some (.int .i64 n) ∧ W.cell? ⟨w.heap.size, 1, none⟩ = some (.slice A n cA) ∧ W.cell? ⟨lg, lo, none⟩ = some (.int .i64 a) ∧ W.cell? ⟨lg, lo + 1, none⟩ = some (.int .i64 b) ∧ W.cell? ⟨lg, lo + 2, none⟩ = some (.int .i64 c)) (by kernel_rfl) (by kernel_rfl) (KS.out _ BD) (fun hS0 => ?_)
  refine GoT.take (i := 0) (v := ?v0_20) rfl (by kernel_rfl) (by rfl) (by kernel_rfl) (by kernel_rfl) (fun _ _ _ h => h) (Or.inl ⟨by rfl, ?hy0_20⟩) hS0 ?rest0_20
  case hy0_20 =>
    intro W hSw
    (try dsimp only at hSw)
    go_simp
    first | done | (with_reducible rfl)
  try simp only [Act.put, List.setIfInBounds_toArray, List.set_cons_zero, List.set_cons_succ]
  refine GoT.take (i := 1) (v := ?v1_21) rfl (by kernel_rfl) (by rfl) (by kernel_rfl) (by kernel_rfl) (fun _ _ _ h => h) (Or.inl ⟨by rfl, ?hy1_21⟩) hS0 ?rest1_21
  case hy1_21 =>
    intro W hSw
    (try dsimp only at hSw)
    go_simp
    first | done | (with_reducible rfl)
  try simp only [Act.put, List.setIfInBounds_toArray, List.set_cons_zero, List.set_cons_succ]
  refine GoT.take (i := 2) (v := ?v2_22) rfl (by kernel_rfl) (by rfl) (by kernel_rfl) (by kernel_rfl) (fun _ _ _ h => h) (Or.inl ⟨by rfl, ?hy2_22⟩) hS0 ?rest2_22
  case hy2_22 =>
    intro W hSw
    (try dsimp only at hSw)
    go_simp
    first | done | (with_reducible rfl)
  try simp only [Act.put, List.setIfInBounds_toArray, List.set_cons_zero, List.set_cons_succ]
  refine GoT.take (i := 3) (v := ?v3_23) rfl (by kernel_rfl) (by rfl) (by kernel_rfl) (by kernel_rfl) (fun _ _ _ h => h) (Or.inl ⟨by rfl, ?hy3_23⟩) hS0 ?rest3_23
  case hy3_23 =>
    intro W hSw
    (try dsimp only at hSw)
    go_simp
    first | done | (with_reducible rfl)
  try simp only [Act.put, List.setIfInBounds_toArray, List.set_cons_zero, List.set_cons_succ]
  refine GoT.take (i := 4) (v := ?v4_24) rfl (by kernel_rfl) (by rfl) (by kernel_rfl) (by kernel_rfl) (fun _ _ _ h => h) (Or.inl ⟨by rfl, ?hy4_24⟩) hS0 ?rest4_24
  case hy4_24 =>
    intro W hSw
    (try dsimp only at hSw)
    go_simp
    first | done | (with_reducible rfl)
  try simp only [Act.put, List.setIfInBounds_toArray, List.set_cons_zero, List.set_cons_succ]
  refine GoT.take (i := 5) (v := ?v5_25) rfl (by kernel_rfl) (by rfl) (by kernel_rfl) (by kernel_rfl) (fun _ _ _ h => h) (Or.inl ⟨by rfl, ?hy5_25⟩) hS0 ?rest5_25
  case hy5_25 =>
    intro W hSw
    (try dsimp only at hSw)
    go_simp
    first | done | (with_reducible rfl)
  try simp only [Act.put, List.setIfInBounds_toArray, List.set_cons_zero, List.set_cons_succ]
  refine GoT.take (i := 6) (v := ?v6_26) rfl (by kernel_rfl) (by rfl) (by kernel_rfl) (by kernel_rfl) (fun _ _ _ h => h) (Or.inl ⟨by rfl, ?hy6_26⟩) hS0 ?rest6_26
  case hy6_26 =>
    intro W hSw
    (try dsimp only at hSw)
    go_simp
    first | done | (with_reducible rfl)
  try simp only [Act.put, List.setIfInBounds_toArray, List.set_cons_zero, List.set_cons_succ]
  refine GoT.take (i := 8) (v := ?v8_27) rfl (by kernel_rfl) (by rfl) (by kernel_rfl) (by kernel_rfl) (fun _ _ _ h => h) (Or.inl ⟨by rfl, ?hy8_27⟩) hS0 ?rest8_27
  case hy8_27 =>
    intro W hSw
    (try dsimp only at hSw)
    go_simp
    first | done | (with_reducible rfl)
  try simp only [Act.put, List.setIfInBounds_toArray, List.set_cons_zero, List.set_cons_succ]
  refine GoT.take (i := 9) (v := ?v9_28) rfl (by kernel_rfl) (by rfl) (by kernel_rfl) (by kernel_rfl) (fun _ _ _ h => h) (Or.inl ⟨by rfl, ?hy9_28⟩) hS0 ?rest9_28
  case hy9_28 =>
    intro W hSw
    (try dsimp only at hSw)
    go_simp
    first | done | (with_reducible rfl)
  try simp only [Act.put, List.setIfInBounds_toArray, List.set_cons_zero, List.set_cons_succ]
  refine GoT.take (i := 10) (v := ?v10_29) rfl (by kernel_rfl) (by rfl) (by kernel_rfl) (by kernel_rfl) (fun _ _ _ h => h) (Or.inl ⟨by rfl, ?hy10_29⟩) hS0 ?rest10_29
  case hy10_29 =>
    intro W hSw
    (try dsimp only at hSw)
    go_simp
    first | done | (with_reducible rfl)
  try simp only [Act.put, List.setIfInBounds_toArray, List.set_cons_zero, List.set_cons_succ]
  refine GoT.take (i := 11) (v := ?v11_30) rfl (by kernel_rfl) (by rfl) (by kernel_rfl) (by kernel_rfl) (fun _ _ _ h => h) (Or.inl ⟨by rfl, ?hy11_30⟩) hS0 ?rest11_30
  case hy11_30 =>
    intro W hSw
    (try dsimp only at hSw)
    go_simp
    first | done | (with_reducible rfl)
  try simp only [Act.put, List.setIfInBounds_toArray, List.set_cons_zero, List.set_cons_succ]
  refine GoT.take (i := 12) (v := ?v12_31) rfl (by kernel_rfl) (by rfl) (by kernel_rfl) (by kernel_rfl) (fun _ _ _ h => h) (Or.inl ⟨by rfl, ?hy12_31⟩) hS0 ?rest12_31
  case hy12_31 =>
    intro W hSw
    (try dsimp only at hSw)
    go_simp
    first | done | (with_reducible rfl)
  try simp only [Act.put, List.setIfInBounds_toArray, List.set_cons_zero, List.set_cons_succ]
  refine GoT.take (i := 13) (v := ?v13_32) rfl (by kernel_rfl) (by rfl) (by kernel_rfl) (by kernel_rfl) (fun _ _ _ h => h) (Or.inl ⟨by rfl, ?hy13_32⟩) hS0 ?rest13_32
  case hy13_32 =>
    intro W hSw
    (try dsimp only at hSw)
    go_simp
    first | done | (with_reducible rfl)
  try simp only [Act.put, List.setIfInBounds_toArray, List.set_cons_zero, List.set_cons_succ]
  refine GoT.take (i := 15) (v := ?v15_33) rfl (by kernel_rfl) (by rfl) (by kernel_rfl) (by kernel_rfl) (fun _ _ _ h => h) (Or.inl ⟨by rfl, ?hy15_33⟩) hS0 ?rest15_33
  case hy15_33 =>
    intro W hSw
    (try dsimp only at hSw)
    go_simp
    first | done | (with_reducible rfl)
  try simp only [Act.put, List.setIfInBounds_toArray, List.set_cons_zero, List.set_cons_succ]
  refine GoT.take (i := 16) (v := ?v16_34) rfl (by kernel_rfl) (by rfl) (by kernel_rfl) (by kernel_rfl) (fun _ _ _ h => h) (Or.inl ⟨by rfl, ?hy16_34⟩) hS0 ?rest16_34
  case hy16_34 =>
    intro W hSw
    (try dsimp only at hSw)
    go_simp
    first | done | (with_reducible rfl)
  try simp only [Act.put, List.setIfInBounds_toArray, List.set_cons_zero, List.set_cons_succ]
  refine GoT.take (i := 17) (v := ?v17_35) rfl (by kernel_rfl) (by rfl) (by kernel_rfl) (by kernel_rfl) (fun _ _ _ h => h) (Or.inl ⟨by rfl, ?hy17_35⟩) hS0 ?rest17_35
  case hy17_35 =>
    intro W hSw
    (try dsimp only at hSw)
    go_simp
    first | done | (with_reducible rfl)
  try simp only [Act.put, List.setIfInBounds_toArray, List.set_cons_zero, List.set_cons_succ]
  refine GoT.take (i := 18) (v := ?v18_36) rfl (by kernel_rfl) (by rfl) (by kernel_rfl) (by kernel_rfl) (fun _ _ _ h => h) (Or.inl ⟨by rfl, ?hy18_36⟩) hS0 ?rest18_36
  case hy18_36 =>
    intro W hSw
    (try dsimp only at hSw)
    go_simp
    first | done | (with_reducible rfl)
  try simp only [Act.put, List.setIfInBounds_toArray, List.set_cons_zero, List.set_cons_succ]
  refine GoT.take (i := 19) (v := ?v19_37) rfl (by kernel_rfl) (by rfl) (by kernel_rfl) (by kernel_rfl) (fun _ _ _ h => h) (Or.inl ⟨by rfl, ?hy19_37⟩) hS0 ?rest19_37
  case hy19_37 =>
    intro W hSw
    (try dsimp only at hSw)
    go_simp
    first | done | (with_reducible rfl)
  try simp only [Act.put, List.setIfInBounds_toArray, List.set_cons_zero, List.set_cons_succ]
  refine GoT.take (i := 20) (v := ?v20_38) rfl (by kernel_rfl) (by rfl) (by kernel_rfl) (by kernel_rfl) (fun _ _ _ h => h) (Or.inl ⟨by rfl, ?hy20_38⟩) hS0 ?rest20_38
  case hy20_38 =>
    intro W hSw
    (try dsimp only at hSw)
    go_simp
    first | done | (with_reducible rfl)
  try simp only [Act.put, List.setIfInBounds_toArray, List.set_cons_zero, List.set_cons_succ]
  refine GoT.one (i := 7) rfl (by rfl) (by kernel_rfl) (fun K hK => ?_)
  refine step_call w0.drew (by rfl) 55 #[.tmp 5, .tmp 8, .tmp 11] _ (by rfl) #[.agg #[.int .i64 n, .slice A n cA], .int .i64 a, .int .i64 b] (by simp [Act.eval]) hEF ((cFlipS HP.out (HR.out.below (Below.then HB0.out BD)) a b ha hb).mono ?_)
  rintro e w1 ⟨A1, d1, rfl, ho1, hb1⟩
  refine ⟨_, rfl, ?_⟩
  have B1 := Below.then BD hb1
  have HF1 := Lib.hid ho1.rd
  clear ho1 hb1
  refine hK.out _ _ (KS.out _ B1) (fun hS1 => ?_)
  clear hK K
  simp only [Act.put, List.setIfInBounds_toArray, List.set_cons_zero, List.set_cons_succ]
  refine GoT.one (i := 14) rfl (by rfl) (by kernel_rfl) (fun K hK => ?_)
  refine step_call w1 (by rfl) 55 #[.tmp 12, .tmp 15, .tmp 18] _ (by rfl) #[.agg #[.int .i64 n, .slice A1 n d1], .int .i64 b, .int .i64 c] (by simp [Act.eval]) hEF ((cFlipS HP1.out HF1.out b c hb hc).mono ?_)
  rintro e w2 ⟨A2, d2, rfl, ho2, hb2⟩
  refine ⟨_, rfl, ?_⟩
  have B2 := Below.then B1 hb2
  have HF2 := Lib.hid ho2.rd
  clear ho2 hb2
  refine hK.out _ _ (KS.out _ B2) (fun hS2 => ?_)
  clear hK K
  simp only [Act.put, List.setIfInBounds_toArray, List.set_cons_zero, List.set_cons_succ]
  refine GoT.one (i := 21) rfl (by rfl) (by kernel_rfl) (fun K hK => ?_)
  refine step_call w2 (by rfl) 55 #[.tmp 19, .tmp 22, .tmp 25] _ (by rfl) #[.agg #[.int .i64 n, .slice A2 n d2], .int .i64 c, .int .i64 a] (by simp [Act.eval]) hEF ((cFlipS HP2.out HF2.out c a hc ha).mono ?_)
  rintro e w3 ⟨A3, d3, rfl, ho3, hb3⟩
  refine ⟨_, rfl, ?_⟩
  rw [← HRV.out] at ho3
  have B3 := Below.then B2 hb3
  have hsz2 : w.heap.size < w2.heap.size := Nat.lt_of_lt_of_le HT0.out.gt' B2.size
  have HF3 := Lib.hid ho3
  clear ho3 hb3
  refine hK.out _ _ (KS.out _ B3) (fun hS3 => ?_)
  clear hK K
  simp only [Act.put, List.setIfInBounds_toArray, List.set_cons_zero, List.set_cons_succ]
  refine GoT.stop (by kernel_rfl) ?_
  have HT3 := Lib.hid (HT0.out.below B3)
  have HB3 := Lib.hid (Below.then HB0.out B3)
  have v0 := HT3.out.1.1
  have v1 := HT3.out.1.2
  have f0 := HT3.out.2 0
  have f1 := HT3.out.2 1
  have hgt2 : w.heap.size + 1 < w2.heap.size := Nat.lt_of_lt_of_le HT0.out.gt B2.size
  have HOx := Lib.hid (((HF3.out.kept (setCell_grown _ ⟨w.heap.size + 1, 0, none⟩ (.int .i64 n)) (own_ne (fun k hk => (HF3.out.lt k hk).1) hgt2)).kept (setCell_grown _ ⟨w.heap.size + 1, 1, none⟩ (.slice A3 n d3)) (own_ne (fun k hk => (HF3.out.lt k hk).1) hgt2)))
  have HBx := Lib.hid ((HB3.out.setCell (p := ⟨w.heap.size + 1, 0, none⟩) (show w.heap.size ≤ w.heap.size + 1 by omega) (.int .i64 n)).setCell (p := ⟨w.heap.size + 1, 1, none⟩) (show w.heap.size ≤ w.heap.size + 1 by omega) (.slice A3 n d3))
  have R0 : Hid (((w3.setCell ⟨w.heap.size + 1, 0, none⟩ (.int .i64 n)).setCell ⟨w.heap.size + 1, 1, none⟩ (.slice A3 n d3)).cell? ⟨w.heap.size + 1, 0, none⟩ = some (.int .i64 n)) := (World.cell?_setCell_other _ _ _ _ (by simp)).trans (World.cell?_setCell_same _ _ _ v0)
  have R1 : Hid (((w3.setCell ⟨w.heap.size + 1, 0, none⟩ (.int .i64 n)).setCell ⟨w.heap.size + 1, 1, none⟩ (.slice A3 n d3)).cell? ⟨w.heap.size + 1, 1, none⟩ = some (.slice A3 n d3)) := World.cell?_setCell_same _ _ _ ((World.cell?_setCell_other _ _ _ _ (by simp)).trans v1)
  have hsz : w.heap.size ≤ w2.heap.size := Nat.le_of_lt hsz2
  clear KS hS0 hS1 hS2 hS3 HF3 HT3 HB3 HF1 HF2 z0 z1 z2 y0 y1
  simp only [List.drop_succ_cons, List.drop_zero]
  go_wp2
  have r0 := R0.out
  have r1 := R1.out
  refine bodyPost_ret (v := .agg #[.int .i64 n, .slice A3 n d3]) (by simp only [results, Tryz.results39]; simp [go_sem, r0, r1]) rfl ⟨_, _, rfl, HOx.out.mono hsz, HBx.out⟩
end Go.Proofs.YthoodjjjklbggaaGreatDoor

namespace Go.Proofs.YthoodjjjklbggaaGreatDoor
open Go.RowKit Go.Sort
set_option maxRecDepth 100000
set_option maxHeartbeats 1000000 in
theorem scores_any (n : Nat) (sl : Value) (xs : List Int) (w : World) (h : Rd w sl xs) (hp : tourP n xs) :
    Calls Tryz.prog 11 #[.agg #[.int .i64 n, sl]] w fun e w' => ∃ A c, e = .returned (.slice A n c) ∧ Own w' w.heap.size (.slice A n c) (scL xs n) ∧ Below w.heap.size w w' := by
  have HR := Lib.hid h
  have HP := Lib.hid hp
  have hs := hp.1
  have hln : xs.length = n := by have := hp.2.1; omega
  have HLN := Lib.hid hln
  have q0 : tourB n xs = true := tourB_true.2 hp
  obtain ⟨A, c, rfl, -, hcm, -⟩ := h
  unfold maxLen at hcm
  rw [hln] at HR ⊢
  clear hln hp
  go_enter Tryz.func11, Tryz.ntmps11
  go_wp2_with fail
  have b0 := below_alloc1 w (.cells #[.int .i64 n, .slice A n c] 25)
  have x0 := TBox.new w n (.slice A n c) 25
  generalize w.alloc (.cells #[.int .i64 n, .slice A n c] 25) = w0 at *
  have HX0 := Lib.hid x0
  have HB0 := Lib.hid b0
  clear x0 b0
  have y0_0 := HX0.out.1
  have y1_0 := HX0.out.2
  go_wp2_with fail
  refine (implTourOk n _ xs _ (HR.out.below HB0.out)).mono ?_
  rintro e w1 ⟨rfl, hb⟩
  have HX1 := Lib.hid (HX0.out.below hb)
  have HB1 := Lib.hid (Below.then HB0.out hb)
  clear hb HX0 HB0 y0_0 y1_0
  have y0_1 := HX1.out.1
  have y1_1 := HX1.out.2
  rw [q0]
  go_wp2
  go_loopw [3, 10] (fun v i wr => ∃ (a : Nat), a ≤ n ∧ i = .int .i64 a ∧ Hid (Own wr (w.heap.size + 1) v (scL xs a)) ∧ Hid (TBox wr w.heap.size n (.slice A n c)) ∧ Hid (Below w.heap.size w wr)) (fun _ i _ => n - (intOf i).toNat)
  case atStart => exact ⟨0, by omega, rfl, Lib.hid (by simpa [scL] using Own.nil_ _ _), HX1, HB1⟩
  case round =>
    obtain ⟨a, ha, rfl, HOa, HX, HBa⟩ := hrel
    clear HX1 HB1 y0_1 y1_1
    by_cases hlt : a < n
    · have y0 := HX.out.1
      have y1 := HX.out.2
      have HMS := Lib.hid (scL_succ xs a)
      have hSC : Hid (((popN 8 (winsN xs a) : Nat) : Int) = scN xs a) := rfl
      have hsc := scN_bd xs a
      go_wp2_with fail
      refine (score_any n (.slice A n c) xs a _ (HR.out.below HBa.out) HP.out (by have := HLN.out; omega)).mono ?_
      rintro e w5 ⟨rfl, hb5⟩
      rw [hSC.out]
      clear hSC
      have HX5 := Lib.hid (HX.out.below hb5)
      have HO5 := Lib.hid (HOa.out.below hb5)
      have HB5 := Lib.hid (Below.then HBa.out hb5)
      clear hb5 HX HOa HBa y0 y1
      have hlen := scL_len xs a
      have hsz := HB5.out.size
      have ho := HO5.out
      generalize scN xs a = y at *
      generalize scL xs a = X at *
      have hgt := World.block_lt_of_cell? _ _ HX5.out.1
      simp only at hgt
      go_wp2_with (at_builtin; refine wp_append1 _ rfl (.tmp 13) (.tmp 17) rfl (w.heap.size + 1) _ _ _ rfl ho (by simp [Act.eval]) (by omega) (by exact hgt) ?_; intro v' w7 hown1 hg1; have HO7 := Lib.hid hown1; have HB7 := Lib.hid (below_append HB5.out hg1 ho (by omega) hgt); have HX7 := Lib.hid (HX5.out.kept hg1 (nb_ne (own_ne (fun k hk => (ho.lt k hk).1) (by omega)))); clear hown1 hg1)
      go_roundw
      case rel => exact ⟨a + 1, by omega, by go_num, by rw [HMS.out]; exact HO7, HX7, HB7⟩
      case measure => simp [intOf]; omega
    · obtain rfl : n = a := by omega
      go_wp2
      obtain ⟨Y, cy, rfl, -, -, -⟩ := HOa.out.form
      rw [scL_len] at *
      go_ret
      exact ⟨Y, cy, rfl, HOa.out.mono (by omega), HBa.out⟩
end Go.Proofs.YthoodjjjklbggaaGreatDoor

namespace Go.Proofs.YthoodjjjklbggaaGreatDoor
open Go.RowKit Go.Sort

/-- the i-th of a list goes on a way -/
def wayAt (s : Int) (xs ys : List Int) (i : Nat) : Bool := inB (ys.getD i 0) 0 (s - 1) && (!(containsI (ys.take i) (ys.getD i 0)) && (i == 0 || bitI (xs.getD (ys.getD (i - 1) 0).toNat 0) (ys.getD i 0).toNat))
def wayK (s : Int) (xs ys : List Int) (k : Nat) : Bool := (List.range k).all (wayAt s xs ys)
noncomputable def wayB (s : Int) (xs ys : List Int) : Bool := tourB s xs && wayK s xs ys ys.length
theorem wayK_true {s : Int} {xs ys : List Int} {k : Nat} : wayK s xs ys k = true ↔ ∀ i, i < k → wayAt s xs ys i = true := by simp [wayK]
theorem wayK_no {s : Int} {xs ys : List Int} {k n : Nat} (hk : k < n) (h : wayAt s xs ys k = false) : wayK s xs ys n = false := by
  rcases hq : wayK s xs ys n with _ | _
  · rfl
  · have := wayK_true.1 hq k hk; rw [h] at this; cases this
theorem Rd.take_ {w : World} {A : Option Addr} {n c : Nat} {ys : List Int} (h : Rd w (.slice A n c) ys) (k : Nat) (hk : k ≤ ys.length) : Rd w (.slice A k c) (ys.take k) := by
  obtain ⟨A', c', e, hl, hm, hc⟩ := h
  injection e with e1 e2 e3
  subst e1
  subst e3
  have hl2 : (ys.take k).length = k := by rw [List.length_take]; omega
  refine ⟨A, c, by rw [hl2], by omega, hm, fun h0 => ?_⟩
  obtain ⟨g, off, hA, hg, hx⟩ := hc (by omega)
  refine ⟨g, off, hA, hg, fun j hj => ?_⟩
  rw [hx j (by omega)]
  congr 2
  simp [List.getD_eq_getElem?_getD, show j < k by omega]
theorem wayAt_parts {s : Int} {xs ys : List Int} {i : Nat} (h : wayAt s xs ys i = true) : (0 ≤ ys.getD i 0 ∧ ys.getD i 0 ≤ s - 1) ∧ ys.getD i 0 ∉ ys.take i := by
  unfold wayAt containsI at h
  rw [Bool.and_eq_true, Bool.and_eq_true] at h
  exact ⟨inB_true.1 h.1, by simpa using h.2.1⟩
theorem way_nodup {s : Int} {xs ys : List Int} {k : Nat} (hk : k ≤ ys.length) (h : ∀ j, j < k → wayAt s xs ys j = true) : (ys.take k).Nodup ∧ ∀ y ∈ ys.take k, 0 ≤ y ∧ y ≤ s - 1 := by
  induction k with
  | zero => simp
  | succ k ih =>
    have ih := ih (by omega) (fun j hj => h j (by omega))
    have h1 := wayAt_parts (h k (by omega))
    have e : ys.getD k 0 = ys[k] := by simp [show k < ys.length by omega]
    rw [e] at h1
    rw [List.take_succ_eq_append_getElem (by omega)]
    refine ⟨List.nodup_append.2 ⟨ih.1, by simp, fun a ha b hb => ?_⟩, fun y hy => ?_⟩
    · rw [List.mem_singleton] at hb
      subst hb
      exact fun e => h1.2 (e ▸ ha)
    · rw [List.mem_append, List.mem_singleton] at hy
      rcases hy with hy | rfl
      · exact ih.2 y hy
      · exact h1.1
theorem wayB_len {s : Int} {xs ys : List Int} (h : wayB s xs ys = true) : (ys.length : Int) ≤ s := by
  unfold wayB at h
  rw [Bool.and_eq_true] at h
  have h0 := (tourB_true.1 h.1).1
  have hn := way_nodup (Nat.le_refl _) (wayK_true.1 h.2)
  rw [List.take_length] at hn
  obtain ⟨n, rfl⟩ := Int.eq_ofNat_of_zero_le (by omega : 0 ≤ s)
  have := nodup_le n ys hn.1 (fun y hy => by have := hn.2 y hy; omega)
  omega
theorem wayB_long {s : Int} {xs ys : List Int} (h : s < (ys.length : Int)) : wayB s xs ys = false := by
  rcases hq : wayB s xs ys with _ | _
  · rfl
  · have := wayB_len hq; omega
end Go.Proofs.YthoodjjjklbggaaGreatDoor

namespace Go.Proofs.YthoodjjjklbggaaGreatDoor
open Go.RowKit Go.Sort
set_option maxRecDepth 100000

def ordAt (ns : List Int) (i : Nat) : Bool := inB (ns.getD i 0) 0 ((ns.length : Int) - 1) && !(containsI (ns.take i) (ns.getD i 0))
noncomputable def permB (n : Nat) (ns : List Int) : Bool := @decide (PermP n ns) (Classical.propDecidable _)
theorem permB_true {n : Nat} {ns : List Int} : permB n ns = true ↔ PermP n ns := by unfold permB; simp
theorem permB_false {n : Nat} {ns : List Int} : permB n ns = false ↔ ¬ PermP n ns := by rw [← permB_true]; simp
theorem getD_take_ {ns : List Int} {i j : Nat} (h : j < i) : (ns.take i).getD j 0 = ns.getD j 0 := by
  simp [List.getD_eq_getElem?_getD, h]
theorem ord_no {ns : List Int} {k : Nat} (hk : k < ns.length) (h : ordAt ns k = false) : permB ns.length ns = false := permB_false.2 fun hp => by
  have h1 := hp.2.1 _ (getD_mem' hk)
  have h2 : inB (ns.getD k 0) 0 ((ns.length : Int) - 1) = true := inB_true.2 (by omega)
  have h3 : containsI (ns.take k) (ns.getD k 0) = false := by
    unfold containsI
    rw [decide_eq_false_iff_not]
    intro hm
    obtain ⟨j, hj, e⟩ := List.mem_iff_getElem.1 hm
    rw [List.length_take] at hj
    rw [List.getElem_take] at e
    rw [show ns.getD k 0 = ns[k] by simp [hk]] at e
    exact List.pairwise_iff_getElem.1 hp.2.2 j k (by omega) hk (by omega) e
  rw [ordAt, h2, h3] at h
  simp at h
theorem ord_yes {ns : List Int} (h : ∀ k, k < ns.length → ordAt ns k = true) : permB ns.length ns = true := permB_true.2 <| by
  have hA : ∀ k, k < ns.length → (0 ≤ ns.getD k 0 ∧ ns.getD k 0 ≤ (ns.length : Int) - 1) ∧ ns.getD k 0 ∉ ns.take k := fun k hk => by
    have := h k hk
    unfold ordAt at this
    rw [Bool.and_eq_true, inB_true] at this
    refine ⟨this.1, ?_⟩
    have := this.2
    unfold containsI at this
    simpa using this
  refine ⟨rfl, fun x hx => ?_, ?_⟩
  · obtain ⟨k, hk, rfl⟩ := List.mem_iff_getElem.1 hx
    have := (hA k hk).1
    rw [show ns.getD k 0 = ns[k] by simp [hk]] at this
    omega
  · rw [List.Nodup, List.pairwise_iff_getElem]
    intro i j hi hj hij e
    refine (hA j hj).2 ?_
    rw [show ns.getD j 0 = ns[j] by simp [hj], ← e]
    rw [List.mem_iff_getElem]
    exact ⟨i, by rw [List.length_take]; omega, by rw [List.getElem_take]⟩
set_option maxHeartbeats 1000000 in
theorem equal_any (v1 v2 : Value) (xs ys : List Int) (w : World) (h1 : Rd w v1 xs) (h2 : Rd w v2 ys) :
    Calls Tryz.prog 69 #[v1, v2] w fun e w' => e = .returned (.bool (decide (xs = ys))) ∧ Below w.heap.size w w' := by
  obtain ⟨A, c, rfl, hl1, hm1, hc1⟩ := h1
  obtain ⟨B, d, rfl, hl2, hm2, hc2⟩ := h2
  unfold maxLen at hm1 hm2
  generalize hn : xs.length = n at *
  generalize hm : ys.length = m at *
  have H1 := Lib.hid hn
  have H2 := Lib.hid hm
  have H3 := Lib.hid hc1
  have H4 := Lib.hid hc2
  clear hn hm hc1 hc2
  by_cases hnm : n = m
  · subst hnm
    have hne : ((n : Int) != (n : Int)) = false := by simp
    go_enter Tryz.func69, Tryz.ntmps69
    go_wp2
    go_loopw [13] (fun i wr => ∃ k : Nat, k ≤ n ∧ i = .int .i64 k ∧ Hid (∀ j, j < k → xs.getD j 0 = ys.getD j 0) ∧ Below w.heap.size w wr) (fun i _ => n - (intOf i).toNat)
    case atStart => exact ⟨0, by omega, rfl, fun j hj => absurd hj (by omega), Below.refl _ _⟩
    case round =>
      obtain ⟨k, hk, rfl, HP, hb⟩ := hrel
      have HB := Lib.hid hb
      clear hb
      by_cases hlt : k < n
      · obtain ⟨b, off, rfl, hb, hx⟩ := H3.out (by omega)
        obtain ⟨b', off', rfl, hb', hy⟩ := H4.out (by omega)
        have hxk := cell_regrown ((HB.out.cell (p := ⟨b, off + k, none⟩) hb).trans (hx k hlt))
        have hyk := cell_regrown ((HB.out.cell (p := ⟨b', off' + k, none⟩) hb').trans (hy k hlt))
        clear hx hy
        generalize hx1 : xs.getD k 0 = x at *
        generalize hy1 : ys.getD k 0 = y at *
        have HX1 := Lib.hid hx1
        have HY1 := Lib.hid hy1
        clear hx1 hy1
        rcases q : (x != y) with _ | _
        · go_wp2_with fail
          refine wp_region_below (by kernel_rfl) (by kernel_rfl) ?_
          repeat (go_big_quiet_step (first | (with_reducible fail)))
          refine wpQuiet_nil ?_
          intro wq hbq0
          have HQ := Lib.hid (Below.then HB.out hbq0)
          clear hbq0 hxk hyk
          go_wp2
          go_roundw
          case rel =>
            refine ⟨k + 1, by omega, by go_num, fun j hj => ?_, HQ.out⟩
            by_cases hjk : j < k
            · exact HP.out j hjk
            · obtain rfl : j = k := by omega
              rw [HX1.out, HY1.out]; simpa using q
          case measure => simp [intOf]; omega
        · go_wp2_with fail
          refine wp_region_below (by kernel_rfl) (by kernel_rfl) ?_
          repeat (go_big_quiet_step (first | (with_reducible fail)))
          refine wpQuiet_nil ?_
          intro wq hbq0
          have HQ := Lib.hid (Below.then HB.out hbq0)
          clear hbq0 hxk hyk
          go_wp2
          go_ret
          refine ⟨ret_bool (decide_eq_false ?_).symm, HQ.out⟩
          rintro rfl
          rw [← HX1.out, ← HY1.out] at q
          simp at q
      · obtain rfl : k = n := by omega
        go_wp2
        go_ret
        exact ⟨ret_bool (eqIntS_true xs ys (by rw [H1.out, H2.out]) fun j hj => HP.out j (by have := H1.out; omega)).symm, HB.out⟩
  · have hne : ((n : Int) != (m : Int)) = true := by simp; omega
    go_enter Tryz.func69, Tryz.ntmps69
    go_wp2
    go_ret
    refine ⟨ret_bool (decide_eq_false ?_).symm, Below.refl _ _⟩
    rintro rfl
    exact hnm (H1.out.symm.trans H2.out)
set_option maxHeartbeats 1000000 in
theorem same_any (n : Nat) (v1 v2 : Value) (xs ys : List Int) (w : World) (h1 : Rd w v1 xs) (h2 : Rd w v2 ys) :
    Calls Tryz.prog 42 #[.agg #[.int .i64 n, v1], .agg #[.int .i64 n, v2]] w fun e w' => e = .returned (.bool (decide (xs = ys))) ∧ Below w.heap.size w w' := by
  have H1 := Lib.hid h1
  have H2 := Lib.hid h2
  obtain ⟨A, c, rfl, -, -, -⟩ := h1
  obtain ⟨B, d, rfl, -, -, -⟩ := h2
  have b2 := (below_alloc1 w (.cells #[.int .i64 n, .slice A xs.length c] 25)).alloc (by simp) (.cells #[.int .i64 n, .slice B ys.length d] 25)
  have HB := Lib.hid b2
  clear b2
  have hne : ((n : Int) == (n : Int)) = true := by simp
  go_enter Tryz.func42, Tryz.ntmps42
  go_wp2_with fail
  refine (equal_any _ _ xs ys _ (H1.out.below HB.out) (H2.out.below HB.out)).mono ?_
  rintro e w1 ⟨rfl, hb1⟩
  have HB1 := Lib.hid (Below.then HB.out hb1)
  clear hb1
  go_wp2
  go_ret
  exact ⟨rfl, HB1.out⟩
end Go.Proofs.YthoodjjjklbggaaGreatDoor

namespace Go.Proofs.YthoodjjjklbggaaGreatDoor
open Go.RowKit Go.Sort
section
variable {P : Program} {md : Region.Mode} {S : World → Prop} {Q : Exit → Act → World → Prop}
theorem hTake {l0 rest : List Oper} {i : Nat} {oi : Oper} {v : Value} {fuel : Nat} {listed : Array Bool} {a : Act} {w : World} (hd : l0.drop i = oi :: rest)
    (hs : Region.noSelect l0.toArray = true) (hf : Region.free md l0.toArray listed i = true) (hr : (Region.ready md l0.toArray listed).contains i = true)
    (hQ : ∀ c a w, Q (.panic c) (a.put oi.dst v) w → Q (.panic c) a w) (hy : YieldsIf P l0.toArray S oi v a) (hS : S w)
    (h : wpAnyH P md l0.toArray Q S fuel (listed.setIfInBounds i true) (a.put oi.dst v) w) : wpAnyH P md l0.toArray Q S (fuel + 1) listed a w :=
  wpAnyH_take (drop_at hd) hs hf hr hQ hy hS h
theorem hSkip {l0 rest : List Oper} {i : Nat} {oi : Oper} {fuel : Nat} {listed : Array Bool} {a : Act} {w : World} (hd : l0.drop i = oi :: rest)
    (hs : Region.noSelect l0.toArray = true) (hf : Region.free md l0.toArray listed i = true) (hr : (Region.ready md l0.toArray listed).contains i = true)
    (hQ : ∀ c a w, Q (.panic c) (a.put oi.dst undef) w → Q (.panic c) a w) (hy : Region.wanted oi (yielded l0.toArray a.tmps) = false) (hS : S w)
    (h : wpAnyH P md l0.toArray Q S fuel (listed.setIfInBounds i true) (a.put oi.dst undef) w) : wpAnyH P md l0.toArray Q S (fuel + 1) listed a w :=
  wpAnyH_take (drop_at hd) hs hf hr hQ (.inr ⟨hy, rfl⟩) hS h
theorem hStep {l0 rest : List Oper} {i : Nat} {o : Oper} {fuel : Nat} {listed : Array Bool} {a : Act} {w : World} {rs : List Nat} (hd : l0.drop i = o :: rest)
    (h : ∀ K' : Act → World → Prop, Shut (∀ a w, S w → (S w → wpAnyH P md l0.toArray Q S fuel (listed.setIfInBounds i true) a w) → K' a w) → if Region.wanted o (yielded l0.toArray a.tmps) = true then Oper.wp P o a w K' Q else K' (a.put o.dst undef) w)
    (hs : AllReadyH P md l0.toArray Q S fuel listed a w rs) : AllReadyH P md l0.toArray Q S fuel listed a w (i :: rs) := AllReadyH.cons (drop_at hd) h hs
end
end Go.Proofs.YthoodjjjklbggaaGreatDoor

namespace Go.Proofs.YthoodjjjklbggaaGreatDoor
open Go.RowKit Go.Sort
set_option maxRecDepth 100000
variable {n : Nat} {xs ys : List Int} {sl sl2 : Value} {w : World}
theorem bef_drop {xs ys : List Int} {k : Nat} (h1 : k < xs.length) (h2 : k < ys.length) : befB (xs.drop k) (ys.drop k) = if xs.getD k 0 = ys.getD k 0 then befB (xs.drop (k + 1)) (ys.drop (k + 1)) else decide (xs.getD k 0 < ys.getD k 0) := by
  rw [List.drop_eq_getElem_cons h1, List.drop_eq_getElem_cons h2, befB, List.getD_eq_getElem?_getD, List.getD_eq_getElem?_getD, List.getElem?_eq_getElem h1, List.getElem?_eq_getElem h2]
  rfl
theorem bef_short {xs ys : List Int} {k : Nat} (h : xs.length ≤ k ∨ ys.length ≤ k) : befB (xs.drop k) (ys.drop k) = false := by
  by_cases h1 : xs.length ≤ k
  · rw [List.drop_eq_nil_of_le h1]; rfl
  · rw [List.drop_eq_getElem_cons (show k < xs.length by omega), List.drop_eq_nil_of_le (show ys.length ≤ k by omega)]; rfl
set_option maxHeartbeats 400000 in
theorem cBefore (v1 v2 : Value) (xs ys : List Int) (w : World) (h1 : Rd w v1 xs) (h2 : Rd w v2 ys) :
    Calls Tryz.prog 13 #[v1, v2] w fun e w' => e = .returned (.bool (befB xs ys)) ∧ w = w' := by
  obtain ⟨A, c, rfl, hl1, hm1, hc1⟩ := h1
  obtain ⟨B, d, rfl, hl2, hm2, hc2⟩ := h2
  unfold maxLen at hm1 hm2
  have HD := Lib.hid (fun k (a : k < xs.length) (b : k < ys.length) => bef_drop a b)
  have HS := Lib.hid (fun k => bef_short (xs := xs) (ys := ys) (k := k))
  have HZ : Hid (befB xs ys = befB (xs.drop 0) (ys.drop 0)) := rfl
  generalize hn : xs.length = n at *
  generalize hm : ys.length = m at *
  have H3 := Lib.hid hc1
  have H4 := Lib.hid hc2
  clear hn hm hc1 hc2
  generalize befB xs ys = R at *
  go_enter Tryz.func13, Tryz.ntmps13
  go_wp2
  go_loop [9] (fun i => ∃ k : Nat, k ≤ n ∧ i = .int .i64 k ∧ Hid (R = befB (xs.drop k) (ys.drop k))) (fun i => n - (intOf i).toNat)
  case atStart => exact ⟨0, by omega, rfl, HZ⟩
  case round =>
    obtain ⟨k, hk, rfl, HP⟩ := hrel
    by_cases hlt : k < n
    · obtain ⟨b, off, rfl, hb, hx⟩ := H3.out (by omega)
      have hxk := hx k hlt
      clear hx
      by_cases hlm : k < m
      · obtain ⟨b', off', rfl, hb', hy⟩ := H4.out (by omega)
        have hyk := hy k hlm
        clear hy
        have HD2 := Lib.hid (HD.out k hlt hlm)
        generalize hX : xs.getD k 0 = X at *
        generalize hY : ys.getD k 0 = Y at *
        clear hX hY
        by_cases hXY : X = Y
        · have hne2 : (X != Y) = false := by simp [hXY]
          have HP2 : Hid (R = befB (xs.drop (k + 1)) (ys.drop (k + 1))) := Lib.hid (by rw [HP.out, HD2.out, if_pos hXY])
          clear hXY
          go_wp2
          go_round
          case rel => exact ⟨k + 1, by omega, by go_num, HP2⟩
          case measure => simp [intOf]; omega
        · have hne2 : (X != Y) = true := by simp [hXY]
          have HP2 : Hid (R = decide (X < Y)) := Lib.hid (by rw [HP.out, HD2.out, if_neg hXY])
          go_wp2
          go_ret
          exact ⟨ret_bool HP2.out.symm, rfl⟩
      · have hge : decide ((m : Int) ≤ (k : Int)) = true := by rw [decide_eq_true_eq]; omega
        have HP2 : Hid (R = false) := Lib.hid (by rw [HP.out, HS.out k (.inr (by omega))])
        go_wp2
        go_ret
        exact ⟨ret_bool HP2.out.symm, rfl⟩
    · have hge : ¬ ((k : Int) < (n : Int)) := by omega
      have HP2 : Hid (R = false) := Lib.hid (by rw [HP.out, HS.out k (.inl (by omega))])
      go_wp2
      go_ret
      exact ⟨ret_bool HP2.out.symm, rfl⟩
set_option maxHeartbeats 2000000 in
theorem cIsTri (hp : tourP n xs) (h : Rd w sl xs) {a b c : Nat} (ha : a < n) (hb : b < n) (hc : c < n) {lv : Value} (hl : Rd w lv [(a : Int), (b : Int), (c : Int)]) :
    Calls Tryz.prog 9 #[.agg #[.int .i64 n, sl], lv] w fun e w' => e = .returned (.bool (triP xs a b c)) ∧ Below w.heap.size w w' := by
  have HR := Lib.hid h
  have h1 : 1 ≤ n := by have := hp.1; omega
  have h8 : n ≤ 8 := by have := hp.1; omega
  obtain ⟨A, cA, rfl, -, -, -⟩ := h
  rw [tour_len hp] at *
  have HP := Lib.hid hp
  clear hp
  have HLV := Lib.hid hl
  clear hl
  generalize hq : triP xs a b c = q
  have HQ := Lib.hid hq
  clear hq
  go_enter Tryz.func9, Tryz.ntmps9
  go_wp2_with fail
  have b0 := below_alloc1 w (.cells #[.int .i64 n, .slice A n cA] 25)
  have x0 := TBox.new w n (.slice A n cA) 25
  generalize w.alloc (.cells #[.int .i64 n, .slice A n cA] 25) = w0 at *
  have HX0 := Lib.hid x0
  have HB0 := Lib.hid b0
  clear x0 b0
  have y0_0 := HX0.out.1
  have y1_0 := HX0.out.2
  go_wp2_with fail
  refine (implTourOk n _ xs _ (HR.out.below HB0.out)).mono ?_
  rintro e w1 ⟨rfl, hb⟩
  have HX1 := Lib.hid (HX0.out.below hb)
  have HB1 := Lib.hid (Below.then HB0.out hb)
  clear hb HX0 HB0 y0_0 y1_0
  have y0_1 := HX1.out.1
  have y1_1 := HX1.out.2
  rw [tourB_true.2 HP.out]
  go_wp2_with fail
  refine (isTri_any n _ lv xs a b c _ (HR.out.below HB1.out) (tour_len HP.out) h1 h8 (HLV.out.below HB1.out) ha hb hc).mono ?_
  rintro e w2 ⟨rfl, hb2⟩
  rw [HQ.out]
  have HB2 := Lib.hid (Below.then HB1.out hb2)
  clear hb2 y0_1 y1_1
  go_wp2
  go_ret
  exact ⟨rfl, HB2.out⟩
set_option maxHeartbeats 4000000 in
theorem cRevTri (hp : tourP n xs) (h : Rd w sl xs) {a b c : Nat} (ht : tgP xs n a b c) {lv : Value} (hl : Rd w lv [(a : Int), (b : Int), (c : Int)]) :
    Calls Tryz.prog 8 #[.agg #[.int .i64 n, sl], lv] w fun e w' => ∃ Y cy, e = .returned (.tuple #[.agg #[.int .i64 n, .slice Y n cy], .bool true]) ∧ Own w' w.heap.size (.slice Y n cy) (rv3 xs a b c) ∧ Below w.heap.size w w' := by
  have HR := Lib.hid h
  obtain ⟨n1, n2, n3⟩ := tg_ne hp ht
  have HT3 := Lib.hid ((tg_iff hp ht.1 ht.2.1 ht.2.2.1).2 ht)
  obtain ⟨ha, hb, hc, -⟩ := ht
  have hq3 := rv3_tour hp ha hb hc n1 n2 n3
  obtain ⟨A, cA, rfl, -, -, -⟩ := h
  rw [tour_len hp] at *
  have HP := Lib.hid hp
  clear hp
  have HLV := Lib.hid hl
  clear hl
  obtain ⟨Z, hZ⟩ : ∃ Z, Z = rv3 xs a b c := ⟨_, rfl⟩
  have HZ := Lib.hid hZ
  have HZL : Hid (Z.length = n) := Lib.hid (by rw [hZ]; exact tour_len hq3)
  rw [← hZ]
  clear hZ hq3
  go_enter Tryz.func8, Tryz.ntmps8
  go_wp2_with fail
  have b0 := (below_alloc1 w (.cells #[.int .i64 n, .slice A n cA] 25)).alloc (by simp) (.cells #[.int .i64 0, .slice none 0 0] 25)
  have x0 := (TBox.new w n (.slice A n cA) 25).below (below_alloc1 _ (.cells #[.int .i64 0, .slice none 0 0] 25))
  have t0 := BoxF.new (w.alloc (.cells #[.int .i64 n, .slice A n cA] 25)) 0 (.slice none 0 0) 25
  simp only [World.size_alloc] at t0
  generalize (w.alloc (.cells #[.int .i64 n, .slice A n cA] 25)).alloc (.cells #[.int .i64 0, .slice none 0 0] 25) = w0 at *
  have HX0 := Lib.hid x0
  have HB0 := Lib.hid b0
  have HT0 := Lib.hid t0
  clear x0 b0 t0
  have y0_0 := HX0.out.1
  have y1_0 := HX0.out.2
  go_wp2_with fail
  refine (cIsTri HP.out (HR.out.below HB0.out) ha hb hc (HLV.out.below HB0.out)).mono ?_
  rintro e w1 ⟨rfl, hb⟩
  have HX1 := Lib.hid (HX0.out.below hb)
  have HT1 := Lib.hid (HT0.out.below hb)
  have HB1 := Lib.hid (Below.then HB0.out hb)
  clear hb HX0 HT0 HB0 y0_0 y1_0
  have y0_1 := HX1.out.1
  have y1_1 := HX1.out.2
  rw [HT3.out]
  go_wp2_with fail
  refine (cTurned HP.out (HR.out.below HB1.out) ha hb hc n1 n2 n3 (HLV.out.below HB1.out)).mono ?_
  rintro e w2 ⟨Y, cy, rfl, ho, hb2⟩
  rw [← HZ.out] at ho
  have HT2 := HT1.out.below hb2
  have HB2 := Below.then HB1.out hb2
  have v0 := HT2.1.1
  have v1 := HT2.1.2
  have f0 := HT2.2 0
  have f1 := HT2.2 1
  clear hb2 y0_1 y1_1
  have hgt := HT2.gt
  have hg1 := HT1.out.gt
  have HOx := Lib.hid ((ho.kept (setCell_grown _ ⟨w.heap.size + 1, 0, none⟩ (.int .i64 n)) (own_ne (fun k hk => (ho.lt k hk).1) hg1)).kept (setCell_grown _ ⟨w.heap.size + 1, 1, none⟩ (.slice Y n cy)) (own_ne (fun k hk => (ho.lt k hk).1) hg1))
  have HBx := Lib.hid ((HB2.setCell (p := ⟨w.heap.size + 1, 0, none⟩) (by simp) (.int .i64 n)).setCell (p := ⟨w.heap.size + 1, 1, none⟩) (by simp) (.slice Y n cy))
  have R0 : Hid (((w2.setCell ⟨w.heap.size + 1, 0, none⟩ (.int .i64 n)).setCell ⟨w.heap.size + 1, 1, none⟩ (.slice Y n cy)).cell? ⟨w.heap.size + 1, 0, none⟩ = some (.int .i64 n)) := (World.cell?_setCell_other _ _ _ _ (by simp)).trans (World.cell?_setCell_same _ _ _ v0)
  have R1 : Hid (((w2.setCell ⟨w.heap.size + 1, 0, none⟩ (.int .i64 n)).setCell ⟨w.heap.size + 1, 1, none⟩ (.slice Y n cy)).cell? ⟨w.heap.size + 1, 1, none⟩ = some (.slice Y n cy)) := World.cell?_setCell_same _ _ _ ((World.cell?_setCell_other _ _ _ _ (by simp)).trans v1)
  have hsz := HB1.out.size
  clear ho HT2
  go_wp2
  have r0 := R0.out
  have r1 := R1.out
  refine bodyPost_ret (v := .tuple #[.agg #[.int .i64 n, .slice Y n cy], .bool true]) (by simp only [results, Tryz.results8]; simp [go_sem, r0, r1]) rfl ⟨_, _, rfl, HOx.out.mono hsz, HBx.out⟩
end Go.Proofs.YthoodjjjklbggaaGreatDoor

namespace Go.Proofs.YthoodjjjklbggaaGreatDoor
open Go.RowKit Go.Sort
set_option maxRecDepth 100000
variable {n : Nat} {xs ys : List Int} {sl sl2 : Value} {w : World}
set_option maxHeartbeats 4000000 in
theorem cSameSc (hp : tourP n xs) (h : Rd w sl xs) (hp2 : tourP n ys) (h2 : Rd w sl2 ys) (h5 : n ≤ 5) (hsc : scL xs n = scL ys n) :
    Calls Tryz.prog 40 #[.agg #[.int .i64 n, sl], .agg #[.int .i64 n, sl2]] w fun e w' => e = .returned (.bool true) ∧ Below w.heap.size w w' := by
  have HR := Lib.hid h
  have HR2 := Lib.hid h2
  have HP := Lib.hid hp
  have HP2 := Lib.hid hp2
  have HSC := Lib.hid hsc
  obtain ⟨A, c, rfl, -, -, -⟩ := h
  obtain ⟨B, d, rfl, -, -, -⟩ := h2
  rw [tour_len hp] at *
  rw [tour_len hp2] at *
  clear hp hp2 hsc
  have d5 : decide ((n : Int) ≤ 5) = true := by rw [decide_eq_true_eq]; omega
  clear h5
  go_enter Tryz.func40, Tryz.ntmps40
  have bx := (below_alloc1 w (.cells #[.int .i64 n, .slice A n c] 25)).alloc (by simp) (.cells #[.int .i64 n, .slice B n d] 25)
  have tx := (TBox.new w n (.slice A n c) 25).below (below_alloc1 _ (.cells #[.int .i64 n, .slice B n d] 25))
  have tx2 := TBox.new (w.alloc (.cells #[.int .i64 n, .slice A n c] 25)) n (.slice B n d) 25
  simp only [World.size_alloc] at tx2
  go_wp2_with fail
  generalize (w.alloc (.cells #[.int .i64 n, .slice A n c] 25)).alloc (.cells #[.int .i64 n, .slice B n d] 25) = w0 at *
  have HB0 := Lib.hid bx
  have HA0 := Lib.hid tx
  have HC0 := Lib.hid tx2
  clear bx tx tx2
  have KP : Hid (∀ W, Below w0.heap.size w0 W → (W.cell? ⟨w.heap.size, 0, none⟩ = some (.int .i64 n) ∧ W.cell? ⟨w.heap.size, 1, none⟩ = some (.slice A n c) ∧ W.cell? ⟨w.heap.size + 1, 0, none⟩ = some (.int .i64 n) ∧ W.cell? ⟨w.heap.size + 1, 1, none⟩ = some (.slice B n d))) :=
    Lib.hid fun W hW => ⟨(HA0.out.below hW).1, (HA0.out.below hW).2, (HC0.out.below hW).1, (HC0.out.below hW).2⟩
  have K1 : Hid (∀ W, Below w0.heap.size w0 W → Calls Tryz.prog 23 #[.agg #[.int .i64 n, .slice A n c]] W fun e w' => e = .returned (.bool true) ∧ Below W.heap.size W w') := Lib.hid fun W hW => by
    have := implTourOk n _ xs _ (HR.out.below (Below.then HB0.out hW))
    rwa [tourB_true.2 HP.out] at this
  have K2 : Hid (∀ W, Below w0.heap.size w0 W → Calls Tryz.prog 23 #[.agg #[.int .i64 n, .slice B n d]] W fun e w' => e = .returned (.bool true) ∧ Below W.heap.size W w') := Lib.hid fun W hW => by
    have := implTourOk n _ ys _ (HR2.out.below (Below.then HB0.out hW))
    rwa [tourB_true.2 HP2.out] at this
  have K3 : Hid (∀ W, Below w0.heap.size w0 W → Calls Tryz.prog 11 #[.agg #[.int .i64 n, .slice A n c]] W fun e w' => ∃ C q, e = .returned (.slice C n q) ∧ Rd w' (.slice C n q) (scL xs n) ∧ Below W.heap.size W w') := Lib.hid fun W hW =>
    (scores_any n _ xs _ (HR.out.below (Below.then HB0.out hW)) HP.out).mono fun e w' ⟨C, q, e1, o, b⟩ => ⟨C, q, e1, o.rd, b⟩
  have K4 : Hid (∀ W, Below w0.heap.size w0 W → Calls Tryz.prog 11 #[.agg #[.int .i64 n, .slice B n d]] W fun e w' => ∃ C q, e = .returned (.slice C n q) ∧ Rd w' (.slice C n q) (scL xs n) ∧ Below W.heap.size W w') := Lib.hid fun W hW => by
    have := scores_any n _ ys _ (HR2.out.below (Below.then HB0.out hW)) HP2.out
    rw [← HSC.out] at this
    exact this.mono fun e w' ⟨C, q, e1, o, b⟩ => ⟨C, q, e1, o.rd, b⟩
  have K5 : Hid (∀ W v1 v2, Rd W v1 (scL xs n) → Rd W v2 (scL xs n) → Calls Tryz.prog 69 #[v1, v2] W fun e w' => e = .returned (.bool true) ∧ Below W.heap.size W w') := Lib.hid fun W v1 v2 a b => by
    have := equal_any v1 v2 _ _ W a b
    rwa [decide_eq_true (rfl : scL xs n = scL xs n)] at this
  clear HR HR2 HP HP2 HSC HA0 HC0
  generalize scL xs n = X at *
  have BB0 : Below w0.heap.size w0 w0.drew := (Below.refl _ _).drew
  refine wp_region_held_drew (S := fun W => W.cell? ⟨w.heap.size, 0, none⟩ = some (.int .i64 n) ∧ W.cell? ⟨w.heap.size, 1, none⟩ = some (.slice A n c) ∧ W.cell? ⟨w.heap.size + 1, 0, none⟩ = some (.int .i64 n) ∧ W.cell? ⟨w.heap.size + 1, 1, none⟩ = some (.slice B n d)) (by kernel_rfl) (KP.out _ BB0) (fun hS0 => ?_)
  refine hTake (i := 0) (v := ?v0_1) rfl (by kernel_rfl) (by kernel_rfl) (by kernel_rfl) (fun _ _ _ h => h) (Or.inl ⟨by rfl, ?hy0_1⟩) hS0 ?rest0_1
  case hy0_1 =>
    intro W hSw
    (try dsimp only at hSw)
    go_simp
    first | done | (with_reducible rfl)
  try simp only [Act.put, List.setIfInBounds_toArray, List.set_cons_zero, List.set_cons_succ]
  refine wpAnyH_ready (rs := [1]) (by kernel_rfl) (by simp) ?_
  refine hStep (i := 1) rfl (fun K hK => ?_) AllReadyH.nil
  go_simp; go_at_call 23; refine (K1.out _ BB0).mono ?_; rintro e v1 ⟨rfl, hb⟩; have BB1 := Below.then BB0 hb; clear hb; try go_wp2_with fail
  refine hK.out _ _ ?_ (fun hS1 => ?_)
  · (try dsimp only); exact KP.out _ BB1
  clear hK K
  try simp only [Act.put, List.setIfInBounds_toArray, List.set_cons_zero, List.set_cons_succ]
  refine hTake (i := 2) (v := ?v2_2) rfl (by kernel_rfl) (by kernel_rfl) (by kernel_rfl) (fun _ _ _ h => h) (Or.inl ⟨by rfl, ?hy2_2⟩) hS1 ?rest2_2
  case hy2_2 =>
    intro W hSw
    (try dsimp only at hSw)
    go_simp
    first | done | (with_reducible rfl)
  try simp only [Act.put, List.setIfInBounds_toArray, List.set_cons_zero, List.set_cons_succ]
  refine hTake (i := 3) (v := ?v3_3) rfl (by kernel_rfl) (by kernel_rfl) (by kernel_rfl) (fun _ _ _ h => h) (Or.inl ⟨by rfl, ?hy3_3⟩) hS1 ?rest3_3
  case hy3_3 =>
    intro W hSw
    (try dsimp only at hSw)
    go_simp
    first | done | (with_reducible rfl)
  try simp only [Act.put, List.setIfInBounds_toArray, List.set_cons_zero, List.set_cons_succ]
  refine wpAnyH_ready (rs := [4]) (by kernel_rfl) (by simp) ?_
  refine hStep (i := 4) rfl (fun K hK => ?_) AllReadyH.nil
  go_simp; go_at_call 23; refine (K2.out _ BB1).mono ?_; rintro e v2 ⟨rfl, hb⟩; have BB2 := Below.then BB1 hb; clear hb; try go_wp2_with fail
  refine hK.out _ _ ?_ (fun hS2 => ?_)
  · (try dsimp only); exact KP.out _ BB2
  clear hK K
  try simp only [Act.put, List.setIfInBounds_toArray, List.set_cons_zero, List.set_cons_succ]
  refine hTake (i := 5) (v := ?v5_4) rfl (by kernel_rfl) (by kernel_rfl) (by kernel_rfl) (fun _ _ _ h => h) (Or.inl ⟨by rfl, ?hy5_4⟩) hS2 ?rest5_4
  case hy5_4 =>
    intro W hSw
    (try dsimp only at hSw)
    go_simp
    first | done | (with_reducible rfl)
  try simp only [Act.put, List.setIfInBounds_toArray, List.set_cons_zero, List.set_cons_succ]
  refine hTake (i := 6) (v := ?v6_5) rfl (by kernel_rfl) (by kernel_rfl) (by kernel_rfl) (fun _ _ _ h => h) (Or.inl ⟨by rfl, ?hy6_5⟩) hS2 ?rest6_5
  case hy6_5 =>
    intro W hSw
    (try dsimp only at hSw)
    go_simp
    first | done | (with_reducible rfl)
  try simp only [Act.put, List.setIfInBounds_toArray, List.set_cons_zero, List.set_cons_succ]
  refine hTake (i := 7) (v := ?v7_6) rfl (by kernel_rfl) (by kernel_rfl) (by kernel_rfl) (fun _ _ _ h => h) (Or.inl ⟨by rfl, ?hy7_6⟩) hS2 ?rest7_6
  case hy7_6 =>
    intro W hSw
    (try dsimp only at hSw)
    go_simp
    first | done | (with_reducible rfl)
  try simp only [Act.put, List.setIfInBounds_toArray, List.set_cons_zero, List.set_cons_succ]
  refine hTake (i := 8) (v := ?v8_7) rfl (by kernel_rfl) (by kernel_rfl) (by kernel_rfl) (fun _ _ _ h => h) (Or.inl ⟨by rfl, ?hy8_7⟩) hS2 ?rest8_7
  case hy8_7 =>
    intro W hSw
    (try dsimp only at hSw)
    go_simp
    first | done | (with_reducible rfl)
  try simp only [Act.put, List.setIfInBounds_toArray, List.set_cons_zero, List.set_cons_succ]
  refine hTake (i := 9) (v := ?v9_8) rfl (by kernel_rfl) (by kernel_rfl) (by kernel_rfl) (fun _ _ _ h => h) (Or.inl ⟨by rfl, ?hy9_8⟩) hS2 ?rest9_8
  case hy9_8 =>
    intro W hSw
    (try dsimp only at hSw)
    go_simp
    first | done | (with_reducible rfl)
  try simp only [Act.put, List.setIfInBounds_toArray, List.set_cons_zero, List.set_cons_succ]
  refine hTake (i := 10) (v := ?v10_9) rfl (by kernel_rfl) (by kernel_rfl) (by kernel_rfl) (fun _ _ _ h => h) (Or.inl ⟨by rfl, ?hy10_9⟩) hS2 ?rest10_9
  case hy10_9 =>
    intro W hSw
    (try dsimp only at hSw)
    go_simp
    first | done | (with_reducible rfl)
  try simp only [Act.put, List.setIfInBounds_toArray, List.set_cons_zero, List.set_cons_succ]
  refine hTake (i := 11) (v := ?v11_10) rfl (by kernel_rfl) (by kernel_rfl) (by kernel_rfl) (fun _ _ _ h => h) (Or.inl ⟨by rfl, ?hy11_10⟩) hS2 ?rest11_10
  case hy11_10 =>
    intro W hSw
    (try dsimp only at hSw)
    go_simp
    first | done | (with_reducible rfl)
  try simp only [Act.put, List.setIfInBounds_toArray, List.set_cons_zero, List.set_cons_succ]
  refine hTake (i := 12) (v := ?v12_11) rfl (by kernel_rfl) (by kernel_rfl) (by kernel_rfl) (fun _ _ _ h => h) (Or.inl ⟨by rfl, ?hy12_11⟩) hS2 ?rest12_11
  case hy12_11 =>
    intro W hSw
    (try dsimp only at hSw)
    go_simp
    first | done | (with_reducible rfl)
  try simp only [Act.put, List.setIfInBounds_toArray, List.set_cons_zero, List.set_cons_succ]
  refine hTake (i := 13) (v := ?v13_12) rfl (by kernel_rfl) (by kernel_rfl) (by kernel_rfl) (fun _ _ _ h => h) (Or.inl ⟨by rfl, ?hy13_12⟩) hS2 ?rest13_12
  case hy13_12 =>
    intro W hSw
    (try dsimp only at hSw)
    go_simp
    first | done | (with_reducible rfl)
  try simp only [Act.put, List.setIfInBounds_toArray, List.set_cons_zero, List.set_cons_succ]
  refine hTake (i := 14) (v := ?v14_13) rfl (by kernel_rfl) (by kernel_rfl) (by kernel_rfl) (fun _ _ _ h => h) (Or.inl ⟨by rfl, ?hy14_13⟩) hS2 ?rest14_13
  case hy14_13 =>
    intro W hSw
    (try dsimp only at hSw)
    go_simp
    first | done | (with_reducible rfl)
  try simp only [Act.put, List.setIfInBounds_toArray, List.set_cons_zero, List.set_cons_succ]
  refine hTake (i := 15) (v := ?v15_14) rfl (by kernel_rfl) (by kernel_rfl) (by kernel_rfl) (fun _ _ _ h => h) (Or.inl ⟨by rfl, ?hy15_14⟩) hS2 ?rest15_14
  case hy15_14 =>
    intro W hSw
    (try dsimp only at hSw)
    go_simp
    first | done | (with_reducible rfl)
  try simp only [Act.put, List.setIfInBounds_toArray, List.set_cons_zero, List.set_cons_succ]
  refine hTake (i := 16) (v := ?v16_15) rfl (by kernel_rfl) (by kernel_rfl) (by kernel_rfl) (fun _ _ _ h => h) (Or.inl ⟨by rfl, ?hy16_15⟩) hS2 ?rest16_15
  case hy16_15 =>
    intro W hSw
    (try dsimp only at hSw)
    go_simp
    first | done | (with_reducible rfl)
  try simp only [Act.put, List.setIfInBounds_toArray, List.set_cons_zero, List.set_cons_succ]
  refine hTake (i := 17) (v := ?v17_16) rfl (by kernel_rfl) (by kernel_rfl) (by kernel_rfl) (fun _ _ _ h => h) (Or.inl ⟨by rfl, ?hy17_16⟩) hS2 ?rest17_16
  case hy17_16 =>
    intro W hSw
    (try dsimp only at hSw)
    go_simp
    first | done | (with_reducible rfl)
  try simp only [Act.put, List.setIfInBounds_toArray, List.set_cons_zero, List.set_cons_succ]
  refine hTake (i := 18) (v := ?v18_17) rfl (by kernel_rfl) (by kernel_rfl) (by kernel_rfl) (fun _ _ _ h => h) (Or.inl ⟨by rfl, ?hy18_17⟩) hS2 ?rest18_17
  case hy18_17 =>
    intro W hSw
    (try dsimp only at hSw)
    go_simp
    first | done | (with_reducible rfl)
  try simp only [Act.put, List.setIfInBounds_toArray, List.set_cons_zero, List.set_cons_succ]
  refine hTake (i := 19) (v := ?v19_18) rfl (by kernel_rfl) (by kernel_rfl) (by kernel_rfl) (fun _ _ _ h => h) (Or.inl ⟨by rfl, ?hy19_18⟩) hS2 ?rest19_18
  case hy19_18 =>
    intro W hSw
    (try dsimp only at hSw)
    go_simp
    first | done | (with_reducible rfl)
  try simp only [Act.put, List.setIfInBounds_toArray, List.set_cons_zero, List.set_cons_succ]
  refine hTake (i := 21) (v := ?v21_19) rfl (by kernel_rfl) (by kernel_rfl) (by kernel_rfl) (fun _ _ _ h => h) (Or.inl ⟨by rfl, ?hy21_19⟩) hS2 ?rest21_19
  case hy21_19 =>
    intro W hSw
    (try dsimp only at hSw)
    go_simp
    first | done | (with_reducible rfl)
  try simp only [Act.put, List.setIfInBounds_toArray, List.set_cons_zero, List.set_cons_succ]
  refine wpAnyH_ready (rs := [20]) (by kernel_rfl) (by simp) ?_
  refine hStep (i := 20) rfl (fun K hK => ?_) AllReadyH.nil
  go_simp; go_at_call 11; refine (K3.out _ BB2).mono ?_; rintro e v3 ⟨C1, q1, rfl, ho1, hb⟩; have BB3 := Below.then BB2 hb; clear hb; try go_wp2_with fail
  refine hK.out _ _ ?_ (fun hS3 => ?_)
  · (try dsimp only); exact KP.out _ BB3
  clear hK K
  try simp only [Act.put, List.setIfInBounds_toArray, List.set_cons_zero, List.set_cons_succ]
  refine wpAnyH_ready (rs := [22]) (by kernel_rfl) (by simp) ?_
  refine hStep (i := 22) rfl (fun K hK => ?_) AllReadyH.nil
  go_simp; go_at_call 11; refine (K4.out _ BB3).mono ?_; rintro e v4 ⟨C2, q2, rfl, ho2, hb⟩; have BB4 := Below.then BB3 hb; have ho1' := ho1.below hb; clear hb; try go_wp2_with fail
  refine hK.out _ _ ?_ (fun hS4 => ?_)
  · (try dsimp only); exact KP.out _ BB4
  clear hK K
  try simp only [Act.put, List.setIfInBounds_toArray, List.set_cons_zero, List.set_cons_succ]
  refine wpAnyH_ready (rs := [23]) (by kernel_rfl) (by simp) ?_
  refine hStep (i := 23) rfl (fun K hK => ?_) AllReadyH.nil
  go_simp; go_at_call 69; refine (K5.out _ _ _ ho1' ho2).mono ?_; rintro e v5 ⟨rfl, hb⟩; have BB5 := Below.then BB4 hb; clear hb; try go_wp2_with fail
  refine hK.out _ _ ?_ (fun hS5 => ?_)
  · (try dsimp only); exact KP.out _ BB5
  clear hK K
  try simp only [Act.put, List.setIfInBounds_toArray, List.set_cons_zero, List.set_cons_succ]
  refine hTake (i := 24) (v := ?v24_20) rfl (by kernel_rfl) (by kernel_rfl) (by kernel_rfl) (fun _ _ _ h => h) (Or.inl ⟨by rfl, ?hy24_20⟩) hS5 ?rest24_20
  case hy24_20 =>
    intro W hSw
    (try dsimp only at hSw)
    go_simp
    first | done | (with_reducible rfl)
  try simp only [Act.put, List.setIfInBounds_toArray, List.set_cons_zero, List.set_cons_succ]
  refine hTake (i := 25) (v := ?v25_21) rfl (by kernel_rfl) (by kernel_rfl) (by kernel_rfl) (fun _ _ _ h => h) (Or.inl ⟨by rfl, ?hy25_21⟩) hS5 ?rest25_21
  case hy25_21 =>
    intro W hSw
    (try dsimp only at hSw)
    go_simp
    first | done | (with_reducible rfl)
  try simp only [Act.put, List.setIfInBounds_toArray, List.set_cons_zero, List.set_cons_succ]
  refine wpAnyH_done (by kernel_rfl) ?_ _
  have HZ := Lib.hid (Below.then HB0.out BB5)
  go_wp2
  go_ret
  exact ⟨rfl, HZ.out⟩
end Go.Proofs.YthoodjjjklbggaaGreatDoor

