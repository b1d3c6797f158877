/- Texts put together: Draw2, CallS, HeldT, Draw5. -/
import Derived.Test.YthoodjjjklbggaaDoorMRotational20
import Derived.Test.YthoodjjjklbggaaDoorMRotational04
import Derived.Test.YthoodjjjklbggaaDoorMRotational01
import Derived.Deep.RegionLaw
import Derived.Deep.RegionHeld3
import Derived.Test.YthoodjjjklbggaaDoorMRotational07
import Derived.Test.YthoodjjjklbggaaDoorMRotational06
import Derived.Test.YthoodjjjklbggaaDoorMRotational08
import Derived.Deep.DeepCutAuto
namespace Go.Proofs.YthoodjjjklbggaaDoor
open Go.RowKit Go.Sort
set_option maxRecDepth 100000
set_option maxHeartbeats 8000000 in
theorem l02Draw_any (lo : Nat) (w : World) (g : Nat) (cv : Value) (most : Nat) (hm1 : 1 ≤ most) (hm8 : most ≤ 8) (hc : CurB lo w g cv) :
    Calls Tryd.prog 68 #[.pointer (some ⟨g, 0, none⟩), .int .i64 most] w fun e w' => ∃ (n : Nat) (sl : Value) (xs : List Int), e = .returned (.agg #[.int .i64 n, sl]) ∧ n ≤ most ∧ tourP n xs ∧ Own w' w.heap.size sl xs ∧ CurB lo w' g cv ∧ w.grownBy w' (some g) := by
  have hgw := hc.lt
  have HC0 := Lib.hid (hc.below (below_alloc1 w (.cells #[.int .i64 0, .slice none 0 0] 25)))
  have HT0 := Lib.hid (BoxF.new w 0 (.slice none 0 0) 25)
  have HG0 : Hid (w.grownBy (w.alloc (.cells #[.int .i64 0, .slice none 0 0] 25)) (some g)) := Lib.hid (grown_belowC ⟨rfl, rfl, rfl, Nat.le_refl _, fun _ _ _ => rfl⟩ (below_alloc1 _ _))
  have hrb : w.heap.size ≠ g := by omega
  clear hc
  go_enter Tryd.func68, Tryd.ntmps68
  go_wp2_with fail
  generalize w.alloc (.cells #[.int .i64 0, .slice none 0 0] 25) = w0 at *
  go_wp2_with fail
  refine (l01Below_any lo _ g cv most hm1 (by omega) HC0.out).mono ?_
  rintro e w1 ⟨x, rfl, hx, hc1, hg1⟩
  have HC1 := Lib.hid hc1
  have HT1 := Lib.hid (HT0.out.kept hg1 (by simpa using hrb))
  have HG1 := Lib.hid (HG0.out.trans hg1)
  clear hc1 hg1 HC0 HT0 HG0
  obtain ⟨n, hn⟩ : ∃ n : Nat, n = 1 + x := ⟨_, rfl⟩
  have en : (1 : Int) + (x : Int) = (n : Int) := by omega
  have hn1 : 1 ≤ n := by omega
  have hn8 : n ≤ most := by omega
  clear hn
  go_wp2_with fail
  refine (l01Below_lit lo _ g cv 256 256 rfl (by omega) (by omega) HC1.out).mono ?_
  rintro e w2 ⟨x2, rfl, hx2, hc2, hg2⟩
  have HC2 := Lib.hid hc2
  have HT2 := Lib.hid (HT1.out.kept hg2 (by simpa using hrb))
  have HG2 := Lib.hid (HG1.out.trans hg2)
  clear hc2 hg2 HC1 HT1 HG1
  go_wp2_with fail
  refine (l01Below_lit lo _ g cv 256 256 rfl (by omega) (by omega) HC2.out).mono ?_
  rintro e w3 ⟨x3, rfl, hx3, hc3, hg3⟩
  have HC3 := Lib.hid hc3
  have HT3 := Lib.hid (HT2.out.kept hg3 (by simpa using hrb))
  have HG3 := Lib.hid (HG2.out.trans hg3)
  clear hc3 hg3 HC2 HT2 HG2
  go_wp2_with fail
  refine (l01Below_lit lo _ g cv 256 256 rfl (by omega) (by omega) HC3.out).mono ?_
  rintro e w4 ⟨x4, rfl, hx4, hc4, hg4⟩
  have HC4 := Lib.hid hc4
  have HT4 := Lib.hid (HT3.out.kept hg4 (by simpa using hrb))
  have HG4 := Lib.hid (HG3.out.trans hg4)
  clear hc4 hg4 HC3 HT3 HG3
  go_wp2_with fail
  refine (l01Below_lit lo _ g cv 16 16 rfl (by omega) (by omega) HC4.out).mono ?_
  rintro e w5 ⟨x5, rfl, hx5, hc5, hg5⟩
  have HC5 := Lib.hid hc5
  have HT5 := Lib.hid (HT4.out.kept hg5 (by simpa using hrb))
  have HG5 := Lib.hid (HG4.out.trans hg5)
  clear hc5 hg5 HC4 HT4 HG4
  go_wp2_with fail
  refine (l02Of_any n hn1 (by omega) _ w5).mono ?_
  rintro e w6 ⟨sl, xs, rfl, hp, ho, hb⟩
  obtain ⟨Y, cy, rfl, -, -, -⟩ := ho.form
  have HP := Lib.hid hp
  have hs5 := HG5.out.size
  have T6 := HT5.out.below hb
  have t0 := T6.1.1
  have t1 := T6.1.2
  have f0 := T6.2 0
  have f1 := T6.2 1
  have hw5 : w.heap.size < w5.heap.size := HT5.out.gt
  have HO := Lib.hid ((ho.kept (setCell_grown _ ⟨w.heap.size, 0, none⟩ (.int .i64 n)) (own_ne (fun k hk => (ho.lt k hk).1) hw5)).kept (setCell_grown _ ⟨w.heap.size, 1, none⟩ (.slice Y xs.length cy)) (own_ne (fun k hk => (ho.lt k hk).1) hw5))
  have HC := Lib.hid (((HC5.out.below hb).kept (setCell_grown _ ⟨w.heap.size, 0, none⟩ (.int .i64 n)) (fun k hk => by simp at hk; have := HC5.out.le; exact ⟨by omega, by omega⟩)).kept (setCell_grown _ ⟨w.heap.size, 1, none⟩ (.slice Y xs.length cy)) (fun k hk => by simp at hk; have := HC5.out.le; exact ⟨by omega, by omega⟩))
  have HG := Lib.hid (grown_newC (grown_newC (grown_belowC HG5.out (Below.mono hb (Nat.le_of_lt hw5))) (setCell_grown _ ⟨w.heap.size, 0, none⟩ (.int .i64 n)) (fun k hk => by simp at hk; omega)) (setCell_grown _ ⟨w.heap.size, 1, none⟩ (.slice Y xs.length cy)) (fun k hk => by simp at hk; omega))
  have R0 : Hid (((w6.setCell ⟨w.heap.size, 0, none⟩ (.int .i64 n)).setCell ⟨w.heap.size, 1, none⟩ (.slice Y xs.length cy)).cell? ⟨w.heap.size, 0, none⟩ = some (.int .i64 n)) := (World.cell?_setCell_other _ _ _ _ (by simp)).trans (World.cell?_setCell_same _ _ _ t0)
  have R1 : Hid (((w6.setCell ⟨w.heap.size, 0, none⟩ (.int .i64 n)).setCell ⟨w.heap.size, 1, none⟩ (.slice Y xs.length cy)).cell? ⟨w.heap.size, 1, none⟩ = some (.slice Y xs.length cy)) := World.cell?_setCell_same _ _ _ ((World.cell?_setCell_other _ _ _ _ (by simp)).trans t1)
  clear ho hb T6 hp HC5 HT5 HG5
  go_wp2
  have r0 := R0.out
  have r1 := R1.out
  refine bodyPost_ret (v := .agg #[.int .i64 n, .slice Y xs.length cy]) (by simp only [results, Tryd.results68]; simp [go_sem, r0, r1]) rfl ⟨n, _, xs, rfl, hn8, HP.out, HO.out.mono (by omega), HC.out, HG.out⟩
theorem perm_ins {i : Nat} (k : Nat) {S : List Int} (h : PermP i S) : PermP (i + 1) (S.take k ++ [(i : Int)] ++ S.drop k) := by
  have hp : (S.take k ++ [(i : Int)] ++ S.drop k).Perm ((i : Int) :: S) := by
    have h1 : (S.take k ++ [(i : Int)] ++ S.drop k) = S.take k ++ (i : Int) :: S.drop k := by simp
    rw [h1]
    refine List.perm_middle.trans ?_
    rw [List.take_append_drop]
  refine ⟨by rw [hp.length_eq, List.length_cons, h.1], fun x hx => ?_, ?_⟩
  · rcases List.mem_cons.1 (hp.mem_iff.1 hx) with rfl | hx
    · omega
    · have := h.2.1 x hx; omega
  · rw [hp.nodup_iff, List.nodup_cons]
    exact ⟨fun hm => by have := h.2.1 _ hm; omega, h.2.2⟩
set_option maxHeartbeats 8000000 in
theorem l02Order_any (lo : Nat) (w : World) (g : Nat) (cv : Value) (n : Nat) (hn8 : n ≤ 8) (hc : CurB lo w g cv) :
    Calls Tryd.prog 45 #[.pointer (some ⟨g, 0, none⟩), .int .i64 n] w fun e w' => ∃ (v : Value) (ns : List Int), e = .returned v ∧ PermP n ns ∧ Own w' w.heap.size v ns ∧ CurB lo w' g cv ∧ w.grownBy w' (some g) := by
  have hgw0 := hc.lt
  have HC0 := Lib.hid (hc.below (below_alloc1 w (.cells #[] 3)))
  have HG0 : Hid (w.grownBy (w.alloc (.cells #[] 3)) (some g)) := Lib.hid (grown_belowC ⟨rfl, rfl, rfl, Nat.le_refl _, fun _ _ _ => rfl⟩ (below_alloc1 _ _))
  have HL0 := Lib.hid (Own.lit w w.heap.size [] (Nat.le_refl _) (by simp))
  clear hc
  go_enter Tryd.func45, Tryd.ntmps45
  go_wp2
  go_loopw [5, 6] (fun l t wr => ∃ (i gl d : Nat) (S : List Int), i ≤ n ∧ t = .int .i64 i ∧ l = .slice (some ⟨gl, 0, none⟩) i d ∧ i ≤ d ∧ d ≤ 9223372036854775807 ∧ S.length = i ∧ Hid (PermP i S) ∧ Hid (Own wr w.heap.size (.slice (some ⟨gl, 0, none⟩) i d) S) ∧ Hid (CurB lo wr g cv) ∧ Hid (w.grownBy wr (some g))) (fun _ t _ => n - (intOf t).toNat)
  case atStart => exact ⟨0, _, 0, [], by omega, rfl, rfl, by omega, by omega, rfl, Lib.hid ⟨rfl, fun x hx => absurd hx (by simp), List.nodup_nil⟩, HL0, HC0, HG0⟩
  case round =>
    obtain ⟨wo, rfl⟩ : ∃ x, x = wr := ⟨_, rfl⟩
    obtain ⟨i, gl, d, S, hi, rfl, rfl, hid, hd, hSl, HP, HO, HC, HG⟩ := hrel
    clear HC0 HG0 HL0
    by_cases hlt : i < n
    · have ei : IntKind.i64.wrap ((i : Int) + 1) = ((i + 1 : Nat) : Int) := by rw [IntWalk.i64_in _ (by omega)]; rfl
      go_wp2_with fail
      refine (l01Below_lit lo _ g cv ((i : Int) + 1) (i + 1) (by omega) (by omega) (by omega) HC.out).mono ?_
      rintro e wp ⟨k, rfl, hk, hc1, hg1⟩
      have HO' := Lib.hid (HO.out.kept hg1 (own_ne (fun k hk => (HO.out.lt k hk).1) hgw0))
      have HC' := Lib.hid hc1
      have HG' := Lib.hid (HG.out.trans hg1)
      clear hc1 hg1 HO HC HG
      have HO := HO'
      have HC := HC'
      have HG := HG'
      clear HO' HC' HG'
      have hki : k ≤ i := by omega
      have hqt : (S.take k).length = k := by rw [List.length_take, hSl]; omega
      have hqd : (S.drop k).length = i - k := by rw [List.length_drop, hSl]
      have HE := Lib.hid (Own.lit wp wp.heap.size [] (Nat.le_refl _) (by simp))
      have bE := below_alloc1 wp (.cells #[] 3)
      have HOC := Lib.hid (fun (k : Nat) (hk : k < i) => (HO.out.at1 hSl (by omega)).1 k hk)
      have hgw := (HO.out.lt gl rfl).2
      have HC1 : Hid (∀ j, j < (S.take k).length → (wp.alloc (.cells #[] 3)).cell? ((⟨gl, 0, none⟩ : Addr).add j) = some (.int .i64 ((S.take k).getD j 0))) := fun j hj => by
        rw [hqt] at hj
        rw [Addr.add_lit, Nat.zero_add, bE.cell (p := ⟨gl, j, none⟩) hgw, HOC.out j (by omega)]
        simp [List.getD_eq_getElem?_getD, hj]
      have HBE := Lib.hid bE
      have HLN : Hid ((S.take k ++ [(i : Int)] ++ S.drop k).length = i + 1) := Lib.hid (by rw [List.length_append, List.length_append, hqt, hqd]; simp; omega)
      clear bE ei
      by_cases hdq : d = k
      case pos =>
            go_wp2_with (first
            | (at_builtin; refine wp_appendN (wp.alloc (.cells #[] 3)) rfl (.tmp 19) (.tmp 22) rfl wp.heap.size _ [] rfl HE.out ⟨gl, 0, none⟩ d (S.take k) (by rw [hqt]; simp [Act.eval] <;> omega) HC1.out (by simp; omega) (by simp) ?_; intro v1 w1 ho1 hg1; have HO1 : Hid (Own w1 wp.heap.size v1 (S.take k)) := ho1; have HB1 := Lib.hid (Below.grown HBE.out hg1 (by simp) (fun k hk => (HE.out.lt k hk).1)); clear ho1 hg1)
            | (at_builtin; refine wp_append1 w1 rfl (.tmp 24) (.tmp 26) rfl wp.heap.size _ (S.take k) (i : Int) rfl HO1.out (by simp [Act.eval]) (by omega) HB1.out.size ?_; intro v2 w2 ho2 hg2; have HO2 := Lib.hid ho2; have HB2 := Lib.hid (below_append HB1.out hg2 HO1.out (Nat.le_refl _) HB1.out.size); clear ho2 hg2)
            | (at_builtin; refine wp_appendN w2 rfl (.tmp 28) (.tmp 31) rfl wp.heap.size _ (S.take k ++ [(i : Int)]) rfl HO2.out ⟨gl, 0, none⟩ (d - k) (S.drop k) (by rw [hqd]; simp [Act.eval] <;> omega) (fun j hj => by rw [hqd] at hj; omega) (by simp; omega) HB2.out.size ?_; intro v3 w3 ho3 hg3; obtain ⟨Y3, c3, hv3, hc3, hl3, hY3⟩ := ho3.form; rw [HLN.out] at hv3 hl3 hY3; obtain ⟨g3, rfl, hg3a, hg3b⟩ := hY3 (by omega); subst hv3; have HO3 := Lib.hid ho3; have HB3 := Lib.hid (Below.grown HB2.out hg3 HB2.out.size (fun k hk => (HO2.out.lt k hk).1)); clear ho3 hg3))
            have hln := HLN.out
            unfold maxLen at hc3
            have HPN := Lib.hid (perm_ins k HP.out)
            have HCN := Lib.hid (HC.out.below HB3.out)
            have HGN := Lib.hid (grown_belowC HG.out (Below.mono HB3.out HG.out.size))
            have HON := Lib.hid (HO3.out.mono HG.out.size)
            go_roundw
            case rel => exact ⟨i + 1, g3, c3, _, by omega, by go_num, rfl, by omega, by omega, hln, HPN, HON, HCN, HGN⟩
            case measure => simp [intOf]; omega
      case neg =>
            go_wp2_with (first
            | (at_builtin; refine wp_appendN (wp.alloc (.cells #[] 3)) rfl (.tmp 19) (.tmp 22) rfl wp.heap.size _ [] rfl HE.out ⟨gl, 0, none⟩ d (S.take k) (by rw [hqt]; simp [Act.eval] <;> omega) HC1.out (by simp; omega) (by simp) ?_; intro v1 w1 ho1 hg1; have HO1 : Hid (Own w1 wp.heap.size v1 (S.take k)) := ho1; have HB1 := Lib.hid (Below.grown HBE.out hg1 (by simp) (fun k hk => (HE.out.lt k hk).1)); clear ho1 hg1)
            | (at_builtin; refine wp_append1 w1 rfl (.tmp 24) (.tmp 26) rfl wp.heap.size _ (S.take k) (i : Int) rfl HO1.out (by simp [Act.eval]) (by omega) HB1.out.size ?_; intro v2 w2 ho2 hg2; have HO2 := Lib.hid ho2; have HB2 := Lib.hid (below_append HB1.out hg2 HO1.out (Nat.le_refl _) HB1.out.size); clear ho2 hg2)
            | (at_builtin; refine wp_appendN w2 rfl (.tmp 28) (.tmp 31) rfl wp.heap.size _ (S.take k ++ [(i : Int)]) rfl HO2.out ⟨gl, k, none⟩ (d - k) (S.drop k) (by rw [hqd]; simp [Act.eval]) (fun j hj => by rw [Addr.add_lit, HB2.out.cell (p := ⟨gl, k + j, none⟩) hgw, HOC.out (k + j) (by omega)]; simp [List.getD_eq_getElem?_getD, List.getElem?_drop]) (by simp; omega) HB2.out.size ?_; intro v3 w3 ho3 hg3; obtain ⟨Y3, c3, hv3, hc3, hl3, hY3⟩ := ho3.form; rw [HLN.out] at hv3 hl3 hY3; obtain ⟨g3, rfl, hg3a, hg3b⟩ := hY3 (by omega); subst hv3; have HO3 := Lib.hid ho3; have HB3 := Lib.hid (Below.grown HB2.out hg3 HB2.out.size (fun k hk => (HO2.out.lt k hk).1)); clear ho3 hg3))
            have hln := HLN.out
            unfold maxLen at hc3
            have HPN := Lib.hid (perm_ins k HP.out)
            have HCN := Lib.hid (HC.out.below HB3.out)
            have HGN := Lib.hid (grown_belowC HG.out (Below.mono HB3.out HG.out.size))
            have HON := Lib.hid (HO3.out.mono HG.out.size)
            go_roundw
            case rel => exact ⟨i + 1, g3, c3, _, by omega, by go_num, rfl, by omega, by omega, hln, HPN, HON, HCN, HGN⟩
            case measure => simp [intOf]; omega
    · obtain rfl : n = i := by omega
      go_wp2
      go_ret
      exact ⟨_, S, rfl, HP.out, HO.out, HC.out, HG.out⟩
end Go.Proofs.YthoodjjjklbggaaDoor

namespace Go.Proofs.YthoodjjjklbggaaDoor
open Go.RowKit Go.Sort
set_option maxRecDepth 100000
theorem step_call {ops : Array Oper} {o : Oper} {a : Act} {K : Act → World → Prop} {Q : Exit → Act → World → Prop} {E : Prop} (w : World) (hgd : o.guard = none) (f : FuncId) (args : Array Operand) (tys : Array TypeId)
    (ho : o.op = .call { callee := .value (.func f), args := args, argTypes := tys }) (vals : Array Value) (hargs : args.map a.eval = vals)
    (hE : ∀ (args : Array Value) (W : World), (callFunc f args).run Tryd.prog W = .ok (.enter f args) W)
    (h : Calls Tryd.prog f vals w fun e w' => ∃ v, e = .returned v ∧ K (a.put o.dst v) w') :
    if Region.wanted o (yielded ops a.tmps) = true then Oper.wp Tryd.prog o a w K Q else E := by
  have hw : Region.wanted o (yielded ops a.tmps) = true := by simp [Region.wanted, hgd]
  rw [if_pos hw]
  have hr : (execOp a.eval o).run Tryd.prog w = .ok (.enter f vals) w := by
    unfold execOp
    simp only [ho, resolve, invoke, Sem.run_bind, hargs]
    simp [go_sem, Act.eval, Deferred.ofValue, hE]
  unfold Oper.wp
  rw [hr, Oper.upon_enter]
  exact h.mono fun e w' ⟨v, he, hk⟩ => by subst he; exact hk
def accI (xs : List Int) (k : Nat) : Int := (xs.take k).sum
theorem accI_succ (xs : List Int) {k : Nat} (h : k < xs.length) : accI xs (k + 1) = accI xs k + xs.getD k 0 := by
  unfold accI
  rw [List.take_succ_eq_append_getElem h, List.sum_append, show xs.getD k 0 = xs[k] by simp [h]]
  simp
theorem accI_bd (xs : List Int) (B : Nat) (h : ∀ x ∈ xs, -(B : Int) ≤ x ∧ x ≤ B) : ∀ k, k ≤ xs.length → -((B * k : Nat) : Int) ≤ accI xs k ∧ accI xs k ≤ ((B * k : Nat) : Int) := by
  intro k
  induction k with
  | zero => intro _; simp [accI]
  | succ k ih =>
    intro hk
    have h1 := ih (by omega)
    have h2 := h (xs.getD k 0) (by rw [show xs.getD k 0 = xs[k] by simp [show k < xs.length by omega]]; exact List.getElem_mem _)
    rw [accI_succ xs (by omega), Nat.mul_succ]
    push_cast at *
    omega
set_option maxHeartbeats 4000000 in
theorem sum_any (w : World) (v : Value) (xs : List Int) (B : Nat) (h : Rd w v xs) (hn : xs.length ≤ 64) (hB : B ≤ 1000000000000) (hb : ∀ x ∈ xs, -(B : Int) ≤ x ∧ x ≤ B) :
    Calls Tryd.prog 8 #[v] w fun e w' => e = .returned (.int .i64 xs.sum) ∧ w = w' := by
  have HBD := Lib.hid (fun k hk => accI_bd xs B hb k hk)
  have HAS := Lib.hid (fun (k : Nat) hk => @accI_succ xs k hk)
  have HE : Hid (accI xs xs.length = xs.sum) := Lib.hid (by unfold accI; rw [List.take_length])
  have hxb := Lib.hid hb
  obtain ⟨A, c, rfl, hl, hm, hx⟩ := h
  unfold maxLen at hm
  have HX := Lib.hid hx
  clear hx hb
  generalize hln : xs.length = n at *
  have HLN := Lib.hid hln
  clear hln
  go_enter Tryd.func8, Tryd.ntmps8
  go_wp2
  go_loop [3, 8] (fun a i => ∃ k : Nat, ∃ y : Int, k ≤ n ∧ i = .int .i64 k ∧ a = .int .i64 y ∧ Hid (y = accI xs k)) (fun _ i => n - (intOf i).toNat)
  case atStart => exact ⟨0, 0, by omega, rfl, rfl, Lib.hid rfl⟩
  case round =>
    obtain ⟨k, y, hk, rfl, rfl, HY⟩ := hrel
    by_cases hlt : k < n
    · obtain ⟨g, off, rfl, hg, hcell⟩ := HX.out (by omega)
      have z := hcell k hlt
      have b1 := HBD.out k hk
      have b2 := HBD.out (k + 1) hlt
      have es := HAS.out k hlt
      have e0 : B * k ≤ 1000000000000 * 64 := Nat.mul_le_mul hB (by omega)
      have e1 : B * (k + 1) ≤ 1000000000000 * 64 := Nat.mul_le_mul hB (by omega)
      rw [es, ← HY.out] at b2
      rw [← HY.out] at b1 es
      have ES := Lib.hid es
      clear hcell es
      generalize xs.getD k 0 = x at *
      have ea : IntKind.i64.wrap (y + x) = y + x := IntWalk.i64_in _ (by omega)
      go_wp2
      go_round
      case rel => exact ⟨k + 1, y + x, by omega, by go_num, by first | rfl | go_num, Lib.hid ES.out.symm⟩
      case measure => simp [intOf]; omega
    · obtain rfl : n = k := by omega
      go_wp2
      go_ret
      exact ⟨ret_int (by rw [HY.out, HE.out]), rfl⟩
end Go.Proofs.YthoodjjjklbggaaDoor

namespace Go.Proofs.YthoodjjjklbggaaDoor
open Go.RowKit Go.Sort

section
variable {P : Program} {ops : Array Oper} {md : Region.Mode} {S : World → Prop} {R : Exit → Act → World → Prop}

/-- whatever order is picked among the first n, with f of them left to do; S holds behind each -/
def pickH (P : Program) (md : Region.Mode) (ops : Array Oper) (R : Exit → Act → World → Prop) (S : World → Prop) (n : Nat) (L : Array Bool → Act → World → Prop) : Nat → Array Bool → Act → World → Prop
  | 0, b, a, w => L b a w
  | f + 1, b, a, w => Region.ready md ops b ≠ [] ∧ ∀ i ∈ Region.ready md ops b, i < n ∧ wpOp P ops R i (fun a' w' => S w' ∧ pickH P md ops R S n L f (b.setIfInBounds i true) a' w') a w

theorem pickH_any {n g : Nat} {L : Array Bool → Act → World → Prop} (hL : ∀ b a w, L b a w → wpAny P md ops R g b a w) (f : Nat) :
    ∀ (b : Array Bool) (a : Act) (w : World), pickH P md ops R S n L f b a w → wpAny P md ops R (f + g) b a w := by
  induction f with
  | zero => intro b a w h; rw [Nat.zero_add]; exact hL _ _ _ h
  | succ f ih =>
    intro b a w h
    rw [show f + 1 + g = (f + g) + 1 by omega]
    exact ⟨fun h0 => absurd h0 h.1, fun i hi => wpOp_mono (fun a' w' h' => ih _ a' w' h'.2) (h.2 i hi).2⟩

theorem pickH_first {n i : Nat} {oi : Oper} {v : Value} {L : Array Bool → Act → World → Prop} (hi : ops[i]? = some oi) (hsel : ∀ (j : Nat) (o : Oper) cs b, ops[j]? = some o → o.op ≠ .select cs b)
    (hs : Region.sinkB md ops n = true) (hc : Region.chainB md ops n = true) (hn : n < ops.size) (hin : i < n) (hdone : ∀ b a w, L b a w → ∀ j ∈ Region.ready md ops b, n ≤ j)
    (hQ : ∀ c a w, R (.panic c) (a.put oi.dst v) w → R (.panic c) a w) (f : Nat) :
    ∀ (b : Array Bool) (a : Act) (w : World), HeadInv md ops n b →
      (∀ j oj, ops[j]? = some oj → j ≠ i → b.getD j true = false → (∀ e ∈ oj.after, Region.binds md e = true → e.on ≠ i) → oi.apart ops oj = true) →
      i ∈ Region.ready md ops b → YieldsIf P ops S oi v a → S w →
      pickH P md ops R S n L f (b.setIfInBounds i true) (a.put oi.dst v) w → pickH P md ops R S n L (f + 1) b a w := by
  induction f with
  | zero =>
    intro b a w inv _ hr hy hS H
    have hun := (mem_ready.1 hr).1
    refine ⟨fun h => (by rw [h] at hr; cases hr), fun j hj => ?_⟩
    have hjn : j < n := Nat.lt_of_not_le fun h => tail_waits hs hc hn inv _ i rfl hin hun j h hj
    by_cases hji : j = i
    · subst hji; exact ⟨hjn, hy.wpOp hi hS ⟨hS, H⟩⟩
    · have := hdone _ _ _ H j (ready_mono hj hji); omega
  | succ f ih =>
    intro b a w inv hfree hr hy hS H
    have hun := (mem_ready.1 hr).1
    refine ⟨fun h => (by rw [h] at hr; cases hr), fun j hj => ?_⟩
    have hjn : j < n := Nat.lt_of_not_le fun h => tail_waits hs hc hn inv _ i rfl hin hun j h hj
    refine ⟨hjn, ?_⟩
    by_cases hji : j = i
    · subst hji; exact hy.wpOp hi hS ⟨hS, H⟩
    · obtain ⟨hjun, oj, hoj, hall⟩ := mem_ready.1 hj
      have hnot : ∀ e ∈ oj.after, Region.binds md e = true → e.on ≠ i := fun e he hb heq => by
        have h1 := hall e he hb
        rw [heq, getD_both hun] at h1
        cases h1
      have h2 := wpOp_putIf hoj (hfree j oj hoj hji hjun hnot) (fun cs b => hsel i oi cs b hi) (fun cs b => hsel j oj cs b hoj) hQ hy (H.2 j (ready_mono hj hji)).2
      refine wpOp_mono (fun a' w' h3 => ⟨h3.2.1, ih (b.setIfInBounds j true) a' w' (inv.set hj hjn) (fun k ok hk hki hun hno => hfree k ok hk hki ?_ hno) (ready_mono hr (Ne.symm hji)) h3.1 h3.2.1 ?_⟩) h2
      · by_cases hjk : j = k
        · subst hjk; exact hjun
        · rw [getD_set_ne true hjk] at hun; exact hun
      · rw [Array.setIfInBounds_comm _ _ hji]
        exact h3.2.2

/-- the walk's goal -/
def GoT (P : Program) (md : Region.Mode) (ops : Array Oper) (R : Exit → Act → World → Prop) (S : World → Prop) (n : Nat) (L : Array Bool → Act → World → Prop) (f : Nat) (b : Array Bool) (a : Act) (w : World) : Prop :=
  HeadInv md ops n b → pickH P md ops R S n L f b a w
/-- what the tail's head must look like -/
def tailL (P : Program) (md : Region.Mode) (ops : Array Oper) (R : Exit → Act → World → Prop) (n g : Nat) (l : List Oper) (b : Array Bool) (a : Act) (w : World) : Prop :=
  Region.seqB md ops g n b = true ∧ wpList P ops R l a w
/-- what is checked of a region once -/
def tailOk (md : Region.Mode) (ops : Array Oper) (n : Nat) : Bool := Region.noSelect ops && Region.sinkB md ops n && Region.chainB md ops n && decide (n < ops.size)

theorem drop_at {l : List Oper} {i : Nat} {o : Oper} {rest : List Oper} (h : l.drop i = o :: rest) : l.toArray[i]? = some o := by
  have := congrArg (fun l => l[0]?) h
  simpa [List.getElem?_drop] using this

/-- the operation is read off 'drop i', so that it stands written out -/
theorem GoT.take {l0 rest : List Oper} {n g f i : Nat} {oi : Oper} {v : Value} {l : List Oper} {b : Array Bool} {a : Act} {w : World} (hd : l0.drop i = oi :: rest) (hok : tailOk md l0.toArray n = true) (hin : decide (i < n) = true)
    (hf : Region.free md l0.toArray b i = true) (hr : (Region.ready md l0.toArray b).contains i = true) (hQ : ∀ c a w, R (.panic c) (a.put oi.dst v) w → R (.panic c) a w) (hy : YieldsIf P l0.toArray S oi v a) (hS : S w)
    (h : GoT P md l0.toArray R S n (tailL P md l0.toArray R n g l) f (b.setIfInBounds i true) (a.put oi.dst v) w) : GoT P md l0.toArray R S n (tailL P md l0.toArray R n g l) (f + 1) b a w := by
  intro inv
  have hi := drop_at hd
  simp only [tailOk, Bool.and_eq_true, decide_eq_true_eq] at hok
  have hr' : i ∈ Region.ready md l0.toArray b := by simpa using hr
  exact pickH_first hi (Region.noSelect_spec hok.1.1.1) hok.1.1.2 hok.1.2 hok.2 (of_decide_eq_true hin) (fun b a w hL => seqB_ready hL.1) hQ f b a w inv (Region.free_spec hi hf) hr' hy hS (h (inv.set hr' (of_decide_eq_true hin)))

/-- the only one that may come up -/
theorem GoT.one {l0 rest : List Oper} {n f i : Nat} {o : Oper} {L : Array Bool → Act → World → Prop} {b : Array Bool} {a : Act} {w : World} (hd : l0.drop i = o :: rest) (hin : decide (i < n) = true) (hr : Region.ready md l0.toArray b = [i])
    (h : ∀ K' : Act → World → Prop, Shut (∀ a w, S w → (S w → GoT P md l0.toArray R S n L f (b.setIfInBounds i true) a w) → K' a w) → if Region.wanted o (yielded l0.toArray a.tmps) = true then Oper.wp P o a w K' R else K' (a.put o.dst undef) w) :
    GoT P md l0.toArray R S n L (f + 1) b a w := by
  intro inv
  have hi := drop_at hd
  have hri : i ∈ Region.ready md l0.toArray b := by rw [hr]; simp
  refine ⟨by rw [hr]; simp, fun j hj => ?_⟩
  have hji : j = i := by rw [hr] at hj; simpa using hj
  subst hji
  exact ⟨of_decide_eq_true hin, wpOp_step hi (fun K' hK => h K' (fun a w hS hW => hK a w ⟨hS, hW hS (inv.set hri (of_decide_eq_true hin))⟩))⟩

theorem GoT.stop {n g : Nat} {l : List Oper} {b : Array Bool} {a : Act} {w : World} (hs : Region.seqB md ops g n b = true) (h : wpList P ops R l a w) : GoT P md ops R S n (tailL P md ops R n g l) 0 b a w := fun _ => ⟨hs, h⟩

theorem wp_region_heldT {id : Nat} {Q : Exit → Act → World → Prop} {a : Act} {w : World} {l : List Oper} (n : Nat) (S : World → Prop) (hm : P.follows .mixedOrders = true) (hok : tailOk .any l.toArray n = true) (hS : S w.drew)
    (h : S w.drew → GoT P .any l.toArray Q S n (tailL P .any l.toArray Q n (l.length - n) (l.drop n)) n (Array.replicate l.toArray.size false) a w.drew) : (Code.region id l.toArray true).wp P Q a w := by
  have hn : n < l.length := by simp only [tailOk, Bool.and_eq_true, decide_eq_true_eq] at hok; simpa using hok.2
  have hdl : (l.drop n).length = l.length - n := by simp
  refine wp_region_any hm ?_
  have H := h hS ⟨by simp, fun j oj _ hl => (by rw [getD_replicate_false] at hl; cases hl), fun t _ ht => getD_in (by simpa using ht) (getD_replicate_false _ _)⟩
  have := pickH_any (R := Q) (g := l.length - n) (fun b a' w' hL => by
    have := wpAny_of_seq (md := .any) (Q' := Q) (l.drop n) n b a' w' (fun j => by simp [List.getElem?_drop]) (by rw [hdl]; exact hL.1) hL.2
    rwa [hdl] at this) _ _ _ _ H
  rw [show n + (l.length - n) = l.toArray.size by simp; omega] at this
  exact this
end
end Go.Proofs.YthoodjjjklbggaaDoor

namespace Go.Proofs.YthoodjjjklbggaaDoor
open Go.RowKit Go.Sort
set_option maxRecDepth 100000
set_option maxHeartbeats 2000000 in
theorem l01Once_any (lo : Nat) (w : World) (g : Nat) (v : Value) (k : Int) (n : Nat) (hk : k = n) (hn : 1 ≤ n) (hn2 : n ≤ 256) (hc : CurB lo w g v) :
    Calls Tryd.prog 53 #[.pointer (some ⟨g, 0, none⟩), .int .i64 k] w fun e w' => ∃ b : Bool, e = .returned (.bool b) ∧ CurB lo w' g v ∧ w.grownBy w' (some g) := by
  subst hk
  have HC := Lib.hid hc
  clear hc
  go_enter Tryd.func53, Tryd.ntmps53
  go_wp2_with fail
  refine (l01Below_any lo _ g v n hn hn2 HC.out).mono ?_
  rintro e w1 ⟨x, rfl, hx, hc1, hg1⟩
  have HC1 := Lib.hid hc1
  have HG1 := Lib.hid hg1
  clear hc1 hg1
  rcases Nat.eq_zero_or_pos x with h0 | h0
  · subst h0
    go_wp2
    go_ret
    exact ⟨true, rfl, HC1.out, HG1.out⟩
  · have hx0 : ((x : Int) == 0) = false := by simp; omega
    have hx1 : (x == 0) = false := by simp; omega
    go_wp2
    go_ret
    exact ⟨false, ret_bool (by first | rfl | (simp; omega)), HC1.out, HG1.out⟩
/-- the tour that is being drawn, in its box -/
structure DrT (w W : World) (g bt lo n : Nat) (cv : Value) : Prop where
  tour : ∃ sl xs, tourP n xs ∧ BoxF W bt n sl ∧ Own W (w.heap.size + 1) sl xs ∧ ∀ k, sl.ownBlock = some k → k ≠ bt
  box : BoxF W w.heap.size 0 (.slice none 0 0)
  cur : CurB lo W g cv
  grown : w.grownBy W (some g)
theorem DrT.cursor {w W W' : World} {g bt lo n : Nat} {cv : Value} (h : DrT w W g bt lo n cv) (hgw : g < w.heap.size) (hb : w.heap.size < bt) (hc : CurB lo W' g cv) (hg : W.grownBy W' (some g)) : DrT w W' g bt lo n cv := by
  obtain ⟨sl, xs, h1, h2, h3, h4⟩ := h.tour
  exact ⟨⟨sl, xs, h1, h2.kept hg (by simp; omega), h3.kept hg (own_ne (fun k hk => (h3.lt k hk).1) (by omega)), h4⟩, h.box.kept hg (by simp; omega), hc, h.grown.trans hg⟩
/-- a new tour goes into the box -/
theorem DrT.put {w W : World} {g bt lo n n' : Nat} {cv sl : Value} {xs : List Int} (h : DrT w W g bt lo n cv) (hgw : g < w.heap.size) (hb : w.heap.size < bt) (hp : tourP n' xs) (ho : Own W (w.heap.size + 1) sl xs) (hne : ∀ k, sl.ownBlock = some k → k ≠ bt) :
    DrT w ((W.setCell ⟨bt, 0, none⟩ (.int .i64 n')).setCell ⟨bt, 1, none⟩ sl) g bt lo n' cv := by
  obtain ⟨sl0, xs0, h1, h2, h3, h4⟩ := h.tour
  have g1 : W.grownBy (W.setCell ⟨bt, 0, none⟩ (.int .i64 n')) (some bt) := setCell_grown _ ⟨bt, 0, none⟩ _
  have g2 : (W.setCell ⟨bt, 0, none⟩ (.int .i64 n')).grownBy ((W.setCell ⟨bt, 0, none⟩ (.int .i64 n')).setCell ⟨bt, 1, none⟩ sl) (some bt) := setCell_grown _ ⟨bt, 1, none⟩ _
  have hn : sl.ownBlock = none ∨ sl.ownBlock ≠ some bt := by
    rcases q : sl.ownBlock with _ | k
    · exact .inl rfl
    · right; intro e; injection e with e; exact hne k q e
  exact ⟨⟨sl, xs, hp, h2.set01 n' sl, (ho.kept g1 hn).kept g2 hn, hne⟩, (h.box.kept g1 (by simp; omega)).kept g2 (by simp; omega), (h.cur.kept g1 (fun k hk => by injection hk with hk; have := h.cur.le; have := h.cur.lt; omega)).kept g2 (fun k hk => by injection hk with hk; have := h.cur.le; have := h.cur.lt; omega), grown_newC (grown_newC h.grown g1 (fun k hk => by injection hk with hk; omega)) g2 (fun k hk => by injection hk with hk; omega)⟩
theorem DrT.below {w W W' : World} {g bt lo n : Nat} {cv : Value} (h : DrT w W g bt lo n cv) (hb : Below W.heap.size W W') : DrT w W' g bt lo n cv := by
  obtain ⟨sl, xs, h1, h2, h3, h4⟩ := h.tour
  exact ⟨⟨sl, xs, h1, h2.below hb, h3.below hb, h4⟩, h.box.below hb, h.cur.below hb, grown_belowC h.grown (Below.mono hb h.grown.size)⟩
theorem DrT.drew {w W : World} {g bt lo n : Nat} {cv : Value} (h : DrT w W g bt lo n cv) : DrT w W.drew g bt lo n cv := by
  obtain ⟨sl, xs, h1, h2, h3, h4⟩ := h.tour
  exact ⟨⟨sl, xs, h1, h2, h3, h4⟩, h.box, h.cur.drew, ⟨h.grown.os, h.grown.tape, h.grown.output, h.grown.size, h.grown.block⟩⟩
set_option maxHeartbeats 8000000 in
theorem l05Draw_any (lo : Nat) (w : World) (g : Nat) (cv : Value) (most : Nat) (hm1 : 1 ≤ most) (hm8 : most ≤ 8) (hc : CurB lo w g cv) :
    Calls Tryd.prog 44 #[.pointer (some ⟨g, 0, none⟩), .int .i64 most] w fun e w' => ∃ (n : Nat) (sl : Value) (xs : List Int), e = .returned (.agg #[.int .i64 n, sl]) ∧ n ≤ most ∧ tourP n xs ∧ Own w' w.heap.size sl xs ∧ w.grownBy w' (some g) := by
  have hgw := hc.lt
  have hrb : w.heap.size ≠ g := by omega
  have HC0 := Lib.hid (hc.below (below_alloc1 w (.cells #[.int .i64 0, .slice none 0 0] 25)))
  have HT0 := Lib.hid (BoxF.new w 0 (.slice none 0 0) 25)
  have hsz0 : (w.alloc (.cells #[.int .i64 0, .slice none 0 0] 25)).heap.size = w.heap.size + 1 := by simp
  have HG0 : Hid (w.grownBy (w.alloc (.cells #[.int .i64 0, .slice none 0 0] 25)) (some g)) := Lib.hid (grown_belowC ⟨rfl, rfl, rfl, Nat.le_refl _, fun _ _ _ => rfl⟩ (below_alloc1 _ _))
  have HS0 := Lib.hid hsz0
  clear hc hsz0
  go_enter Tryd.func44, Tryd.ntmps44
  go_wp2_with fail
  generalize w.alloc (.cells #[.int .i64 0, .slice none 0 0] 25) = w0 at *
  go_wp2_with fail
  refine (l02Draw_any lo w0 g cv most hm1 hm8 HC0.out).mono ?_
  rintro e w1 ⟨n, sl, xs, rfl, hnm, hp, ho, hc1, hg1⟩
  have hb1 := below_alloc1 w1 (.cells #[.int .i64 n, sl] 25)
  have hbt : w.heap.size < w1.heap.size := Nat.lt_of_lt_of_le HT0.out.gt hg1.size
  have hn1 : 1 ≤ n := by have := hp.1; omega
  have HD1 : Hid (DrT w (w1.alloc (.cells #[.int .i64 n, sl] 25)) g w1.heap.size lo n cv) := Lib.hid ⟨⟨sl, xs, hp, BoxF.new w1 n sl 25, (ho.below hb1).mono (Nat.le_of_eq HS0.out.symm), fun k hk => by have := (ho.lt k hk).2; omega⟩, (HT0.out.kept hg1 (by simpa using hrb)).below hb1, hc1.below hb1, grown_belowC (HG0.out.trans hg1) (Below.mono hb1 (Nat.le_of_lt hbt))⟩
  obtain ⟨Y0, cy0, rfl, -, -, -⟩ := ho.form
  clear hp ho hc1 hg1 hb1 HC0 HT0 HG0 HS0
  go_wp2_with fail
  generalize w1.alloc (.cells #[.int .i64 n, .slice Y0 xs.length cy0] 25) = w2 at *
  generalize w1.heap.size = bt at *
  go_wp2_with fail
  refine (l01Once_any lo w2 g cv 3 3 rfl (by omega) (by omega) HD1.out.cur).mono ?_
  rintro e w3 ⟨b, rfl, hc3, hg3⟩
  have HD := Lib.hid (HD1.out.cursor hgw hbt hc3 hg3)
  clear hc3 hg3 HD1
  rcases b with _ | _
  · as_aux_lemma =>
      obtain ⟨sl, xs, hp, hx, ho, hne⟩ := HD.out.tour
      obtain ⟨Y, cy, rfl, -, -, -⟩ := ho.form
      have HP := Lib.hid hp
      have y0 := hx.1.1
      have y1 := hx.1.2
      have t0 := HD.out.box.1.1
      have t1 := HD.out.box.1.2
      have f0 := HD.out.box.2 0
      have f1 := HD.out.box.2 1
      have HO' := Lib.hid ((ho.kept (setCell_grown _ ⟨w.heap.size, 0, none⟩ (.int .i64 n)) (own_ne (fun k hk => (ho.lt k hk).1) (by show w.heap.size < w.heap.size + 1; omega))).kept (setCell_grown _ ⟨w.heap.size, 1, none⟩ (.slice Y xs.length cy)) (own_ne (fun k hk => (ho.lt k hk).1) (by show w.heap.size < w.heap.size + 1; omega)))
      have HG' := Lib.hid (grown_newC (grown_newC HD.out.grown (setCell_grown _ ⟨w.heap.size, 0, none⟩ (.int .i64 n)) (fun k hk => by simp at hk; omega)) (setCell_grown _ ⟨w.heap.size, 1, none⟩ (.slice Y xs.length cy)) (fun k hk => by simp at hk; omega))
      have R0 : Hid (((w3.setCell ⟨w.heap.size, 0, none⟩ (.int .i64 n)).setCell ⟨w.heap.size, 1, none⟩ (.slice Y xs.length cy)).cell? ⟨w.heap.size, 0, none⟩ = some (.int .i64 n)) := (World.cell?_setCell_other _ _ _ _ (by simp)).trans (World.cell?_setCell_same _ _ _ t0)
      have R1 : Hid (((w3.setCell ⟨w.heap.size, 0, none⟩ (.int .i64 n)).setCell ⟨w.heap.size, 1, none⟩ (.slice Y xs.length cy)).cell? ⟨w.heap.size, 1, none⟩ = some (.slice Y xs.length cy)) := World.cell?_setCell_same _ _ _ ((World.cell?_setCell_other _ _ _ _ (by simp)).trans t1)
      clear ho hx hne hp
      go_wp2
      have r0 := R0.out
      have r1 := R1.out
      refine bodyPost_ret (v := .agg #[.int .i64 n, .slice Y xs.length cy]) (by simp only [results, Tryd.results44]; simp [go_sem, r0, r1]) rfl ⟨n, _, xs, rfl, hnm, HP.out, HO'.out.mono (by omega), HG'.out⟩
  · as_aux_lemma =>
      have hgb : g ≠ bt := by omega
      obtain ⟨slo, xso, -, hxo, -, -⟩ := HD.out.tour
      have y0 := hxo.1.1
      have HDD := Lib.hid HD.out.drew
      clear hxo
      go_wp2_with fail
      go_region_held3 (fun W => W.cell? ⟨bt, 0, none⟩ = some (.int .i64 n))
        (first | exact y0 | exact y4 | exact y5 | exact y6 | exact y7)
        (first
          | (go_at_call 70; refine (l02Of_any n hn1 (by omega) 268435455 w3.drew).mono ?_; rintro e w4 ⟨s4, x4, rfl, hp4, ho4, hb4⟩; have HD4 := Lib.hid (HDD.out.below hb4); have HO4 := Lib.hid ho4; have HP4 := Lib.hid hp4; have y4 := (hb4.cell (p := ⟨bt, 0, none⟩) (World.block_lt_of_cell? w3 _ y0)).trans y0; clear ho4 hp4 hb4)
          | (go_at_call 45; refine (l02Order_any lo w4 g cv n (by omega) HD4.out.cur).mono ?_; rintro e w5 ⟨v5, ns, rfl, hP5, ho5, hc5, hg5⟩; have HD5 := Lib.hid (HD4.out.cursor hgw hbt hc5 hg5); have HO45 := Lib.hid (HO4.out.kept hg5 (own_ne (fun k hk => (HO4.out.lt k hk).1) (by have := HD.out.grown.size; exact Nat.lt_of_lt_of_le hgw this))); have HO5 := Lib.hid ho5; have HPP := Lib.hid hP5; have y5 := (World.cell?_of_block (hg5.block bt (World.block_lt_of_cell? w4 _ y4) (by simp; omega))).trans y4; clear ho5 hP5 hc5 hg5)
          | (go_at_call 69; refine (l02Rename_any n s4 x4 ns v5 w5 HO45.out.rd HP4.out HO5.out.rd (by have h1 := HP4.out.2.1; rw [show x4.length = n by omega]; exact HPP.out)).mono ?_; rintro e w6 ⟨s6, rfl, ho6, -, hb6⟩; have HD6 := Lib.hid (HD5.out.below hb6); have HT6 := Lib.hid (rn_tour HP4.out (by have h1 := HP4.out.2.1; rw [show x4.length = n by omega]; exact HPP.out : PermP x4.length ns)); obtain ⟨Y6, cy6, rfl, -, -, -⟩ := ho6.form; have HO6 := Lib.hid ho6; have y6 := (hb6.cell (p := ⟨bt, 0, none⟩) (World.block_lt_of_cell? w5 _ y5)).trans y5; obtain ⟨s9, x9, -, hx9, -, -⟩ := HD6.out.tour; have v0 := hx9.1.1; have v1 := hx9.1.2; have f0 := hx9.2 0; have f1 := hx9.2 1; have y7 : ((w6.setCell ⟨bt, 0, none⟩ (.int .i64 n)).setCell ⟨bt, 1, none⟩ (.slice Y6 (rnL x4 ns).length cy6)).cell? ⟨bt, 0, none⟩ = some (.int .i64 n) := (World.cell?_setCell_other _ _ _ _ (by simp)).trans (World.cell?_setCell_same _ _ _ v0); clear ho6 hb6 hx9))
      have hb5 : bt < w5.heap.size := by
        obtain ⟨_, _, _, hx5, _, _⟩ := HD5.out.tour
        exact hx5.gt
      have HD7 := Lib.hid (HD6.out.put hgw hbt HT6.out (HO6.out.mono (by omega)) (fun k hk => by have := (HO6.out.lt k hk).1; omega))
      clear HD HDD HD4 HO4 HP4 HD5 HO45 HO5 HPP HD6 HT6 HO6 y0 y4 y5 y6 y7 v0 v1 f0 f1 hb5
      generalize (w6.setCell ⟨bt, 0, none⟩ (.int .i64 n)).setCell ⟨bt, 1, none⟩ (.slice Y6 (rnL x4 ns).length cy6) = w7 at *
      go_wp2_with fail
      refine (l01Below_lit lo w7 g cv 3 3 rfl (by omega) (by omega) HD7.out.cur).mono ?_
      rintro e w8 ⟨k8, rfl, hk8, hc8, hg8⟩
      have HD8 := Lib.hid (HD7.out.cursor hgw hbt hc8 hg8)
      clear hc8 hg8 HD7
      go_wp2
      go_loopw [6] (fun t6 wr => ∃ k : Nat, k ≤ 2 ∧ t6 = .int .i64 k ∧ Hid (DrT w wr g bt lo n cv)) (fun t6 _ => (intOf t6).toNat)
      case atStart => exact ⟨k8, by omega, rfl, HD8⟩
      case round =>
        obtain ⟨wo, rfl⟩ : ∃ x, x = wr := ⟨_, rfl⟩
        obtain ⟨k, hk, rfl, HD⟩ := hrel
        clear HD8
        by_cases hgo : 0 < k ∧ 1 < n
        · as_aux_lemma =>
            obtain ⟨hk0, hn2⟩ := hgo
            obtain ⟨k, rfl⟩ : ∃ j, k = j + 1 := ⟨k - 1, by omega⟩
            obtain ⟨slo, xso, -, hxo, -, -⟩ := HD.out.tour
            have y0 := hxo.1.1
            have hn2i : (1 : Int) < (n : Int) := by omega
            clear hxo
            go_wp2_with fail
            refine (l01Below_any lo wo g cv n hn1 (by omega) HD.out.cur).mono ?_
            rintro e w9 ⟨a, rfl, ha, hc9, hg9⟩
            have HD9 := Lib.hid (HD.out.cursor hgw hbt hc9 hg9)
            clear hc9 hg9 HD y0
            obtain ⟨sl, xs, hp, hx, ho, -⟩ := HD9.out.tour
            obtain ⟨Y, cy, rfl, -, -, -⟩ := ho.form
            have y0 := hx.1.1
            have y1 := hx.1.2
            have hxl : xs.length = n := by have := hp.2.1; omega
            have HXL := Lib.hid hxl
            have HP := Lib.hid hp
            have HOX := Lib.hid ho
            have HDD := Lib.hid HD9.out.drew
            have hbt9 := World.block_lt_of_cell? w9 _ y0
            have hEB : ∀ (args : Array Value) (W : World), (callFunc 71 args).run Tryd.prog W = .ok (.enter 71 args) W := fun args W => by kernel_rfl
            have hEF : ∀ (args : Array Value) (W : World), (callFunc 72 args).run Tryd.prog W = .ok (.enter 72 args) W := fun args W => by kernel_rfl
            have e4 : IntKind.i64.wrap ((n : Int) - 1) = ((n - 1 : Nat) : Int) := by rw [IntWalk.i64_in _ (by omega)]; omega
            have hCn : (n : Int) ≠ 0 := by omega
            have hCz : n ≠ 0 := by omega
            have hCz2 : ¬ n = 0 := by omega
            rw [hxl] at y1 HOX
            clear hp hx ho hxl
            go_wp2_with fail
            refine wp_region_heldT 14 (fun W => W.cell? ⟨bt, 0, none⟩ = some (.int .i64 n) ∧ W.cell? ⟨bt, 1, none⟩ = some (.slice Y n cy)) (by kernel_rfl) (by kernel_rfl) ⟨y0, y1⟩ (fun hS0 => ?_)
            refine GoT.take (i := 0) (v := ?v0_1) rfl (by kernel_rfl) (by rfl) (by kernel_rfl) (by kernel_rfl) (fun _ _ _ h => h) (Or.inl ⟨by rfl, ?hy0_1⟩) hS0 ?rest0_1
            case hy0_1 =>
              intro W hSw
              (try dsimp only at hSw)
              go_simp
              first | done | (with_reducible rfl)
            try simp only [Act.put, List.setIfInBounds_toArray, List.set_cons_zero, List.set_cons_succ]
            refine GoT.take (i := 1) (v := ?v1_2) rfl (by kernel_rfl) (by rfl) (by kernel_rfl) (by kernel_rfl) (fun _ _ _ h => h) (Or.inl ⟨by rfl, ?hy1_2⟩) hS0 ?rest1_2
            case hy1_2 =>
              intro W hSw
              (try dsimp only at hSw)
              go_simp
              first | done | (with_reducible rfl)
            try simp only [Act.put, List.setIfInBounds_toArray, List.set_cons_zero, List.set_cons_succ]
            refine GoT.take (i := 2) (v := ?v2_3) rfl (by kernel_rfl) (by rfl) (by kernel_rfl) (by kernel_rfl) (fun _ _ _ h => h) (Or.inl ⟨by rfl, ?hy2_3⟩) hS0 ?rest2_3
            case hy2_3 =>
              intro W hSw
              (try dsimp only at hSw)
              go_simp
              first | done | (with_reducible rfl)
            try simp only [Act.put, List.setIfInBounds_toArray, List.set_cons_zero, List.set_cons_succ]
            refine GoT.take (i := 3) (v := ?v3_4) rfl (by kernel_rfl) (by rfl) (by kernel_rfl) (by kernel_rfl) (fun _ _ _ h => h) (Or.inl ⟨by rfl, ?hy3_4⟩) hS0 ?rest3_4
            case hy3_4 =>
              intro W hSw
              (try dsimp only at hSw)
              go_simp
              first | done | (with_reducible rfl)
            try simp only [Act.put, List.setIfInBounds_toArray, List.set_cons_zero, List.set_cons_succ]
            refine GoT.take (i := 4) (v := ?v4_5) rfl (by kernel_rfl) (by rfl) (by kernel_rfl) (by kernel_rfl) (fun _ _ _ h => h) (Or.inl ⟨by rfl, ?hy4_5⟩) hS0 ?rest4_5
            case hy4_5 =>
              intro W hSw
              (try dsimp only at hSw)
              go_simp
              first | done | (with_reducible rfl)
            try simp only [Act.put, List.setIfInBounds_toArray, List.set_cons_zero, List.set_cons_succ]
            refine GoT.take (i := 5) (v := ?v5_6) rfl (by kernel_rfl) (by rfl) (by kernel_rfl) (by kernel_rfl) (fun _ _ _ h => h) (Or.inl ⟨by rfl, ?hy5_6⟩) hS0 ?rest5_6
            case hy5_6 =>
              intro W hSw
              (try dsimp only at hSw)
              go_simp
              first | done | (with_reducible rfl)
            try simp only [Act.put, List.setIfInBounds_toArray, List.set_cons_zero, List.set_cons_succ]
            refine GoT.take (i := 6) (v := ?v6_7) rfl (by kernel_rfl) (by rfl) (by kernel_rfl) (by kernel_rfl) (fun _ _ _ h => h) (Or.inl ⟨by rfl, ?hy6_7⟩) hS0 ?rest6_7
            case hy6_7 =>
              intro W hSw
              (try dsimp only at hSw)
              go_simp
              first | done | (with_reducible rfl)
            try simp only [Act.put, List.setIfInBounds_toArray, List.set_cons_zero, List.set_cons_succ]
            refine GoT.take (i := 7) (v := ?v7_8) rfl (by kernel_rfl) (by rfl) (by kernel_rfl) (by kernel_rfl) (fun _ _ _ h => h) (Or.inl ⟨by rfl, ?hy7_8⟩) hS0 ?rest7_8
            case hy7_8 =>
              intro W hSw
              (try dsimp only at hSw)
              go_simp
              first | done | (with_reducible rfl)
            try simp only [Act.put, List.setIfInBounds_toArray, List.set_cons_zero, List.set_cons_succ]
            refine GoT.take (i := 10) (v := ?v10_9) rfl (by kernel_rfl) (by rfl) (by kernel_rfl) (by kernel_rfl) (fun _ _ _ h => h) (Or.inl ⟨by rfl, ?hy10_9⟩) hS0 ?rest10_9
            case hy10_9 =>
              intro W hSw
              (try dsimp only at hSw)
              go_simp
              first | done | (with_reducible rfl)
            try simp only [Act.put, List.setIfInBounds_toArray, List.set_cons_zero, List.set_cons_succ]
            refine GoT.take (i := 11) (v := ?v11_10) rfl (by kernel_rfl) (by rfl) (by kernel_rfl) (by kernel_rfl) (fun _ _ _ h => h) (Or.inl ⟨by rfl, ?hy11_10⟩) hS0 ?rest11_10
            case hy11_10 =>
              intro W hSw
              (try dsimp only at hSw)
              go_simp
              first | done | (with_reducible rfl)
            try simp only [Act.put, List.setIfInBounds_toArray, List.set_cons_zero, List.set_cons_succ]
            refine GoT.one (i := 8) rfl (by rfl) (by kernel_rfl) (fun K hK => ?_)
            refine step_call w9.drew (by rfl) 71 #[.tmp 40, .tmp 43] _ (by rfl) #[.pointer (some ⟨g, 0, none⟩), .int .i64 ((n - 1 : Nat) : Int)] (by simp [Act.eval, e4]) hEB ((l01Below_any lo w9.drew g cv (n - 1) (by omega) (by omega) HDD.out.cur).mono ?_)
            rintro e w10 ⟨y, rfl, hy, hc10, hg10⟩
            refine ⟨_, rfl, ?_⟩
            have HD10 := Lib.hid (HDD.out.cursor hgw hbt hc10 hg10)
            have z0 := (World.cell?_of_block (hg10.block bt hbt9 (by simp; omega))).trans y0
            have z1 := (World.cell?_of_block (hg10.block bt hbt9 (by simp; omega))).trans y1
            have HO10 := Lib.hid (show Own w10 (w.heap.size + 1) (.slice Y n cy) xs from (show Own w9.drew (w.heap.size + 1) (.slice Y n cy) xs from HOX.out).kept hg10 (own_ne (fun k hk => (HOX.out.lt k hk).1) (by omega)))
            obtain ⟨b, hb, hbC, hba⟩ := other_ex ha hy
            have hr : Int.tmod (IntKind.i64.wrap (IntKind.i64.wrap ((a : Int) + 1) + (y : Int))) (n : Int) = (b : Int) := by
              rw [IntWalk.i64_in ((a : Int) + 1) (by omega), IntWalk.i64_in ((a : Int) + 1 + (y : Int)) (by omega)]; exact hb
            clear hc10 hg10
            refine hK.out _ _ ⟨z0, z1⟩ (fun hS1 => ?_)
            clear hK K
            simp only [Act.put, List.setIfInBounds_toArray, List.set_cons_zero, List.set_cons_succ]
            refine GoT.take (i := 9) (v := ?v9_11) rfl (by kernel_rfl) (by rfl) (by kernel_rfl) (by kernel_rfl) (fun _ _ _ h => h) (Or.inl ⟨by rfl, ?hy9_11⟩) hS1 ?rest9_11
            case hy9_11 =>
              intro W hSw
              (try dsimp only at hSw)
              go_simp
              first | done | (with_reducible rfl)
            try simp only [Act.put, List.setIfInBounds_toArray, List.set_cons_zero, List.set_cons_succ]
            refine GoT.take (i := 12) (v := ?v12_12) rfl (by kernel_rfl) (by rfl) (by kernel_rfl) (by kernel_rfl) (fun _ _ _ h => h) (Or.inl ⟨by rfl, ?hy12_12⟩) hS1 ?rest12_12
            case hy12_12 =>
              intro W hSw
              (try dsimp only at hSw)
              go_simp
              first | done | (with_reducible rfl)
            try simp only [Act.put, List.setIfInBounds_toArray, List.set_cons_zero, List.set_cons_succ]
            refine GoT.one (i := 13) rfl (by rfl) (by kernel_rfl) (fun K hK => ?_)
            refine step_call w10 (by rfl) 72 #[.tmp 36, .tmp 37, .tmp 48] _ (by rfl) #[.agg #[.int .i64 n, .slice Y n cy], .int .i64 a, .int .i64 b] (by simp [Act.eval, hr]) hEF ((l02Flip_any n (.slice Y n cy) xs a b w10 HO10.out.rd (by have := HXL.out; omega) (by have := HXL.out; omega) (by have := HXL.out; omega)).mono ?_)
            rintro e w11 ⟨s11, rfl, ho11, hb11⟩
            refine ⟨_, rfl, ?_⟩
            have HD11 := Lib.hid (HD10.out.below hb11)
            have HT11 := Lib.hid (flip_tour HP.out (a := a) (b := b) (by have := HXL.out; omega) (by have := HXL.out; omega) (Ne.symm hba))
            obtain ⟨Y11, cy11, rfl, -, -, -⟩ := ho11.form
            have HO11 := Lib.hid ho11
            obtain ⟨s12, x12, -, hx12, -, -⟩ := HD11.out.tour
            have v0 := hx12.1.1
            have v1 := hx12.1.2
            have f0 := hx12.2 0
            have f1 := hx12.2 1
            have hbt10 := World.block_lt_of_cell? w10 _ z0
            have z2 := (hb11.cell (p := ⟨bt, 0, none⟩) hbt10).trans z0
            have z3 := (hb11.cell (p := ⟨bt, 1, none⟩) hbt10).trans z1
            clear ho11 hb11 hx12
            refine hK.out _ _ ⟨z2, z3⟩ (fun _ => ?_)
            clear hK K hS0 hS1
            simp only [Act.put, List.setIfInBounds_toArray, List.set_cons_zero, List.set_cons_succ]
            refine GoT.stop (by kernel_rfl) ?_
            have hbt11 : bt < w10.heap.size := hbt10
            have HD12 := Lib.hid (HD11.out.put hgw hbt HT11.out (HO11.out.mono (by omega)) (fun k hk => by have := (HO11.out.lt k hk).1; omega))
            clear HD9 HP HOX HDD HD10 HO10 HD11 HT11 HO11 hr z0 z1 z2 z3 y0 y1
            simp only [List.drop_succ_cons, List.drop_zero]
            go_wp2
            go_roundw
            case rel => exact ⟨k, by omega, rfl, HD12⟩
            case measure => simp [intOf]
        · as_aux_lemma =>
            obtain ⟨slo, xso, -, hxo, -, -⟩ := HD.out.tour
            have y0 := hxo.1.1
            clear hxo
            rcases Nat.eq_zero_or_pos k with hk0 | hk0
            · subst hk0
              clear y0
              obtain ⟨sl, xs, hp, hx, ho, hne⟩ := HD.out.tour
              obtain ⟨Y, cy, rfl, -, -, -⟩ := ho.form
              have HP := Lib.hid hp
              have y0 := hx.1.1
              have y1 := hx.1.2
              have t0 := HD.out.box.1.1
              have t1 := HD.out.box.1.2
              have f0 := HD.out.box.2 0
              have f1 := HD.out.box.2 1
              have HO' := Lib.hid ((ho.kept (setCell_grown _ ⟨w.heap.size, 0, none⟩ (.int .i64 n)) (own_ne (fun k hk => (ho.lt k hk).1) (by show w.heap.size < w.heap.size + 1; omega))).kept (setCell_grown _ ⟨w.heap.size, 1, none⟩ (.slice Y xs.length cy)) (own_ne (fun k hk => (ho.lt k hk).1) (by show w.heap.size < w.heap.size + 1; omega)))
              have HG' := Lib.hid (grown_newC (grown_newC HD.out.grown (setCell_grown _ ⟨w.heap.size, 0, none⟩ (.int .i64 n)) (fun k hk => by simp at hk; omega)) (setCell_grown _ ⟨w.heap.size, 1, none⟩ (.slice Y xs.length cy)) (fun k hk => by simp at hk; omega))
              have R0 : Hid (((wo.setCell ⟨w.heap.size, 0, none⟩ (.int .i64 n)).setCell ⟨w.heap.size, 1, none⟩ (.slice Y xs.length cy)).cell? ⟨w.heap.size, 0, none⟩ = some (.int .i64 n)) := (World.cell?_setCell_other _ _ _ _ (by simp)).trans (World.cell?_setCell_same _ _ _ t0)
              have R1 : Hid (((wo.setCell ⟨w.heap.size, 0, none⟩ (.int .i64 n)).setCell ⟨w.heap.size, 1, none⟩ (.slice Y xs.length cy)).cell? ⟨w.heap.size, 1, none⟩ = some (.slice Y xs.length cy)) := World.cell?_setCell_same _ _ _ ((World.cell?_setCell_other _ _ _ _ (by simp)).trans t1)
              clear ho hx hne hp
              go_wp2
              have r0 := R0.out
              have r1 := R1.out
              refine bodyPost_ret (v := .agg #[.int .i64 n, .slice Y xs.length cy]) (by simp only [results, Tryd.results44]; simp [go_sem, r0, r1]) rfl ⟨n, _, xs, rfl, hnm, HP.out, HO'.out.mono (by omega), HG'.out⟩
            · have hn2 : ¬ 1 < n := by omega
              have hn2i : decide ((1 : Int) < (n : Int)) = false := by simp; omega
              have hn2j : decide (1 < n) = false := by simp; omega
              have hk1 : (0 : Int) < (k : Int) := by omega
              clear y0
              obtain ⟨sl, xs, hp, hx, ho, hne⟩ := HD.out.tour
              obtain ⟨Y, cy, rfl, -, -, -⟩ := ho.form
              have HP := Lib.hid hp
              have y0 := hx.1.1
              have y1 := hx.1.2
              have t0 := HD.out.box.1.1
              have t1 := HD.out.box.1.2
              have f0 := HD.out.box.2 0
              have f1 := HD.out.box.2 1
              have HO' := Lib.hid ((ho.kept (setCell_grown _ ⟨w.heap.size, 0, none⟩ (.int .i64 n)) (own_ne (fun k hk => (ho.lt k hk).1) (by show w.heap.size < w.heap.size + 1; omega))).kept (setCell_grown _ ⟨w.heap.size, 1, none⟩ (.slice Y xs.length cy)) (own_ne (fun k hk => (ho.lt k hk).1) (by show w.heap.size < w.heap.size + 1; omega)))
              have HG' := Lib.hid (grown_newC (grown_newC HD.out.grown (setCell_grown _ ⟨w.heap.size, 0, none⟩ (.int .i64 n)) (fun k hk => by simp at hk; omega)) (setCell_grown _ ⟨w.heap.size, 1, none⟩ (.slice Y xs.length cy)) (fun k hk => by simp at hk; omega))
              have R0 : Hid (((wo.setCell ⟨w.heap.size, 0, none⟩ (.int .i64 n)).setCell ⟨w.heap.size, 1, none⟩ (.slice Y xs.length cy)).cell? ⟨w.heap.size, 0, none⟩ = some (.int .i64 n)) := (World.cell?_setCell_other _ _ _ _ (by simp)).trans (World.cell?_setCell_same _ _ _ t0)
              have R1 : Hid (((wo.setCell ⟨w.heap.size, 0, none⟩ (.int .i64 n)).setCell ⟨w.heap.size, 1, none⟩ (.slice Y xs.length cy)).cell? ⟨w.heap.size, 1, none⟩ = some (.slice Y xs.length cy)) := World.cell?_setCell_same _ _ _ ((World.cell?_setCell_other _ _ _ _ (by simp)).trans t1)
              clear ho hx hne hp
              go_wp2
              have r0 := R0.out
              have r1 := R1.out
              refine bodyPost_ret (v := .agg #[.int .i64 n, .slice Y xs.length cy]) (by simp only [results, Tryd.results44]; simp [go_sem, r0, r1]) rfl ⟨n, _, xs, rfl, hnm, HP.out, HO'.out.mono (by omega), HG'.out⟩
end Go.Proofs.YthoodjjjklbggaaDoor

