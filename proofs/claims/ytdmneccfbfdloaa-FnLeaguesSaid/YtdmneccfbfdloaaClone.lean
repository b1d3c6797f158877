/- slices.Clone of ints; append of many. -/
import Derived.Test.YtdmneccfbfdloaaApp
import Derived.Test.YtdmneccfbfdloaaBox
import Derived.Test.YtdmneccfbfdloaaOwn0
namespace Go.Proofs.Ytdmneccfbfdloaa
open Go.RowKit Go.Sort
set_option maxRecDepth 100000

theorem wp_appendN {ops : Array Oper} {rest : List Oper} {o : Oper} {a : Act} {Q : Exit → Act → World → Prop} (w : World) (hgd : o.guard = none) (s x : Operand)
    (ho : o.op = .call { callee := .builtin .append, args := #[s, x], argTypes := #[22, 22] })
    (base : Nat) (v : Value) (xs : List Int) (hs : a.eval s = v) (hown : Own w base v xs) (ad : Addr) (c : Nat) (ys : List Int) (hx : a.eval x = .slice (some ad) ys.length c)
    (hc : ∀ k, k < ys.length → w.cell? (ad.add k) = some (.int .i64 (ys.getD k 0)))
    (hlen : xs.length + ys.length ≤ 1099511627776) (hbase : base ≤ w.heap.size)
    (h : ∀ v' w', Own w' base v' (xs ++ ys) → w.grownBy w' v.ownBlock → wpList Try.prog ops Q rest (a.put o.dst v') w') :
    wpList Try.prog ops Q (o :: rest) a w := by
  obtain ⟨i0, hi, hz0, hz1, hz2⟩ := info_parts i64_info
  have hown' : w.ownsRow base 3 1 v xs.length (xs.map (Value.int .i64)) := hown
  refine wpList_append_own _ hgd s x 22 ho base 3 i0 (.int .i64 0) 1 8 Try.underlying22 hi hz0 hz1 hz2 rfl (by decide) v xs.length (xs.map (Value.int .i64)) hs hown' ad ys.length c (ys.map (Value.int .i64)) hx (by simp) ?_ ?_ ?_ ?_ ?_ ?_
  · intro j u hj
    have hjl : j < ys.length := by simpa using (List.getElem?_eq_some_iff.1 hj).1
    rw [hc j hjl]
    simp [hjl] at hj
    simp [hjl, hj]
  · intro u hu; simp at hu; obtain ⟨y, -, rfl⟩ := hu; rfl
  · unfold maxLen; omega
  · omega
  · exact hbase
  · intro v' w' h1 h2 _
    refine h v' w' ?_ h2
    unfold Own
    rw [List.length_append, List.map_append]
    exact h1
set_option maxHeartbeats 400000 in
theorem clone_any (v : Value) (xs : List Int) (w : World) (h : Rd w v xs) (h0 : 0 < xs.length) (hl : xs.length ≤ 1048576) :
    Calls Try.prog 73 #[v] w fun e w' => ∃ v', e = .returned v' ∧ Own w' w.heap.size v' xs ∧ Below w.heap.size w w' := by
  obtain ⟨A, c, rfl, hlc, hm, hc⟩ := h
  obtain ⟨g, off, rfl, hg, hx⟩ := hc h0
  have hx' : ∀ k, k < xs.length → (w.alloc (.cells #[] 3)).cell? ((⟨g, off, none⟩ : Addr).add k) = some (.int .i64 (xs.getD k 0)) := fun k hk => by
    rw [Addr.add_lit, World.cell?_alloc_lt _ _ _ (by exact hg)]
    exact hx k hk
  have HX := Lib.hid hx'
  have ho := Own.lit w w.heap.size [] (Nat.le_refl _) (by simp)
  have HO := Lib.hid ho
  clear hx hx' hc ho
  generalize hn : xs.length = n at *
  have HN := Lib.hid hn
  have e0 : ∀ w : World, (binOp .eql 22 (.slice (some ⟨g, off, none⟩) n c) (.slice none 0 0)).run Try.prog w = .ok (.bool false) w := fun _ => by kernel_rfl
  go_enter Try.func73, Try.ntmps73
  go_wp2_with (at_builtin; refine wp_appendN (w.alloc (.cells #[] 3)) rfl (.tmp 5) (.tmp 6) rfl w.heap.size _ [] rfl HO.out ⟨g, off, none⟩ c xs (by rw [hn]; simp [Act.eval]) (by rw [hn]; exact HX.out) (by simp; omega) (by simp) ?_; intro v' w' ho hgr; have HO2 := Lib.hid ho; have HG2 := Lib.hid hgr; clear ho hgr)
  go_ret
  exact ⟨_, rfl, by simpa using HO2.out, Below.grown (below_alloc1 w _) HG2.out (by simp) (fun k hk => (HO.out.lt k hk).1)⟩
end Go.Proofs.Ytdmneccfbfdloaa
