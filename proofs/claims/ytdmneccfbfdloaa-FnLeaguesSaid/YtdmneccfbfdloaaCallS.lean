/- A call inside a region that draws its order, as a step law. -/
import Derived.Test.YtdmneccfbfdloaaBase
import Derived.Deep.RegionLaw
namespace Go.Proofs.Ytdmneccfbfdloaa
open Go.RowKit Go.Sort
set_option maxRecDepth 100000
theorem step_call {ops : Array Oper} {o : Oper} {a : Act} {K : Act → World → Prop} {Q : Exit → Act → World → Prop} {E : Prop} (w : World) (hgd : o.guard = none) (f : FuncId) (args : Array Operand) (tys : Array TypeId)
    (ho : o.op = .call { callee := .value (.func f), args := args, argTypes := tys }) (vals : Array Value) (hargs : args.map a.eval = vals)
    (hE : ∀ (args : Array Value) (W : World), (callFunc f args).run Try.prog W = .ok (.enter f args) W)
    (h : Calls Try.prog f vals w fun e w' => ∃ v, e = .returned v ∧ K (a.put o.dst v) w') :
    if Region.wanted o (yielded ops a.tmps) = true then Oper.wp Try.prog o a w K Q else E := by
  have hw : Region.wanted o (yielded ops a.tmps) = true := by simp [Region.wanted, hgd]
  rw [if_pos hw]
  have hr : (execOp a.eval o).run Try.prog w = .ok (.enter f vals) w := by
    unfold execOp
    simp only [ho, resolve, invoke, Sem.run_bind, hargs]
    simp [go_sem, Act.eval, Deferred.ofValue, hE]
  unfold Oper.wp
  rw [hr, Oper.upon_enter]
  exact h.mono fun e w' ⟨v, he, hk⟩ => by subst he; exact hk
def accI (xs : List Int) (k : Nat) : Int := (xs.take k).sum
theorem accI_succ (xs : List Int) {k : Nat} (h : k < xs.length) : accI xs (k + 1) = accI xs k + xs.getD k 0 := by
  unfold accI
  rw [List.take_succ_eq_append_getElem h, List.sum_append, show xs.getD k 0 = xs[k] by simp [h]]
  simp
theorem accI_bd (xs : List Int) (B : Nat) (h : ∀ x ∈ xs, -(B : Int) ≤ x ∧ x ≤ B) : ∀ k, k ≤ xs.length → -((B * k : Nat) : Int) ≤ accI xs k ∧ accI xs k ≤ ((B * k : Nat) : Int) := by
  intro k
  induction k with
  | zero => intro _; simp [accI]
  | succ k ih =>
    intro hk
    have h1 := ih (by omega)
    have h2 := h (xs.getD k 0) (by rw [show xs.getD k 0 = xs[k] by simp [show k < xs.length by omega]]; exact List.getElem_mem _)
    rw [accI_succ xs (by omega), Nat.mul_succ]
    push_cast at *
    omega
set_option maxHeartbeats 4000000 in
theorem sum_any (w : World) (v : Value) (xs : List Int) (B : Nat) (h : Rd w v xs) (hn : xs.length ≤ 64) (hB : B ≤ 1000000000000) (hb : ∀ x ∈ xs, -(B : Int) ≤ x ∧ x ≤ B) :
    Calls Try.prog 26 #[v] w fun e w' => e = .returned (.int .i64 xs.sum) ∧ w = w' := by
  have HBD := Lib.hid (fun k hk => accI_bd xs B hb k hk)
  have HAS := Lib.hid (fun (k : Nat) hk => @accI_succ xs k hk)
  have HE : Hid (accI xs xs.length = xs.sum) := Lib.hid (by unfold accI; rw [List.take_length])
  have hxb := Lib.hid hb
  obtain ⟨A, c, rfl, hl, hm, hx⟩ := h
  unfold maxLen at hm
  have HX := Lib.hid hx
  clear hx hb
  generalize hln : xs.length = n at *
  have HLN := Lib.hid hln
  clear hln
  go_enter Try.func26, Try.ntmps26
  go_wp2
  go_loop [3, 8] (fun a i => ∃ k : Nat, ∃ y : Int, k ≤ n ∧ i = .int .i64 k ∧ a = .int .i64 y ∧ Hid (y = accI xs k)) (fun _ i => n - (intOf i).toNat)
  case atStart => exact ⟨0, 0, by omega, rfl, rfl, Lib.hid rfl⟩
  case round =>
    obtain ⟨k, y, hk, rfl, rfl, HY⟩ := hrel
    by_cases hlt : k < n
    · obtain ⟨g, off, rfl, hg, hcell⟩ := HX.out (by omega)
      have z := hcell k hlt
      have b1 := HBD.out k hk
      have b2 := HBD.out (k + 1) hlt
      have es := HAS.out k hlt
      have e0 : B * k ≤ 1000000000000 * 64 := Nat.mul_le_mul hB (by omega)
      have e1 : B * (k + 1) ≤ 1000000000000 * 64 := Nat.mul_le_mul hB (by omega)
      rw [es, ← HY.out] at b2
      rw [← HY.out] at b1 es
      have ES := Lib.hid es
      clear hcell es
      generalize xs.getD k 0 = x at *
      have ea : IntKind.i64.wrap (y + x) = y + x := IntWalk.i64_in _ (by omega)
      go_wp2
      go_round
      case rel => exact ⟨k + 1, y + x, by omega, by go_num, by first | rfl | go_num, Lib.hid ES.out.symm⟩
      case measure => simp [intOf]; omega
    · obtain rfl : n = k := by omega
      go_wp2
      go_ret
      exact ⟨ret_int (by rw [HY.out, HE.out]), rfl⟩
end Go.Proofs.Ytdmneccfbfdloaa
