/- Appends of results as steps of a region; slices.Clone of results. -/
import Derived.Test.YtdmneccfbfdloaaAppR
import Derived.Test.YtdmneccfbfdloaaMet
import Derived.Maps.AppendAt
import Derived.Lib.SliceRun
import Derived.Deep.RegionHeld3
namespace Go.Proofs.Ytdmneccfbfdloaa
open Go.RowKit Go.Sort
set_option maxRecDepth 100000
theorem four_news {w : World} {b off : Nat} {news : List R4} (h : ∀ k, k < news.length → Four w b (off + k * 4) (r4At news k)) : ∀ j u, (flat4 news)[j]? = some u → w.cell? ((⟨b, off, none⟩ : Addr).add j) = some u := by
  intro j u hj
  have hjl : j < (flat4 news).length := (List.getElem?_eq_some_iff.1 hj).1
  rw [flat4_length] at hjl
  have hk : j / 4 < news.length := by omega
  have e : j = j / 4 * 4 + j % 4 := by omega
  have hm : j % 4 < 4 := by omega
  have h4 := flat4_at news (j / 4) hk (j % 4) hm
  rw [← e, hj] at h4
  obtain ⟨f0, f1, f2, f3⟩ := h (j / 4) hk
  rw [Addr.add_lit, e]
  have hadd : off + (j / 4 * 4 + j % 4) = off + j / 4 * 4 + j % 4 := by omega
  rw [hadd]
  generalize j / 4 = k at *
  rcases (show j % 4 = 0 ∨ j % 4 = 1 ∨ j % 4 = 2 ∨ j % 4 = 3 by omega) with q | q | q | q <;> rw [q] at h4 ⊢ <;> simp [cells4] at h4 <;> rw [h4]
  · simpa using f0
  · exact f1
  · exact f2
  · exact f3
theorem run_appendR (w : World) (ty : TypeId) (base : Nat) (v : Value) (rs news : List R4) (ad : Addr) (c : Nat) (hown : OwnR w base v rs) (hc : ∀ j u, (flat4 news)[j]? = some u → w.cell? (ad.add j) = some u) (hlen : rs.length + news.length ≤ 1099511627776) (hbase : base ≤ w.heap.size) :
    ∃ v' w', (Builtin.append_ #[34, 34] ty #[v, .slice (some ad) news.length c]).run Try.prog w = .ok v' w' ∧ OwnR w' base v' (rs ++ news) ∧ w.grownBy w' v.ownBlock ∧ (v'.ownBlock = v.ownBlock ∨ v'.ownBlock = some w.heap.size) := by
  obtain ⟨i0, hi, hz0, hz1, hz2⟩ := info_parts res_info
  have h1 : ∀ u ∈ flat4 news, u.oneCell' = true := by
    intro u hu
    unfold flat4 at hu
    rw [List.mem_flatMap] at hu
    obtain ⟨r, -, hr⟩ := hu
    simp [cells4] at hr
    rcases hr with rfl | rfl | rfl | rfl <;> rfl
  obtain ⟨v', w', hr, h2, h3, -, h5⟩ := run_append_own_at (P := Try.prog) w base 34 ty 52 i0 (.agg #[.int .i64 0, .int .i64 0, .int .i64 0, .int .i64 0]) 4 32 Try.underlying34 hi hz0 hz1 hz2 rfl (by decide) v rs.length (flat4 rs) hown ad news.length c (flat4 news) (flat4_length news) hc h1 (by unfold maxLen; omega) (by omega) hbase
  refine ⟨v', w', hr, ?_, h3, h5⟩
  unfold OwnR
  rw [List.length_append, flat4_append]
  exact h2
theorem step_appendR {ops : Array Oper} {o : Oper} {a : Act} {K : Act → World → Prop} {Q : Exit → Act → World → Prop} {E : Prop} (w : World) (hgd : o.guard = none) (s x : Operand)
    (ho : o.op = .call { callee := .builtin .append, args := #[s, x], argTypes := #[34, 34] })
    (base : Nat) (v : Value) (rs news : List R4) (m : Nat) (hm : news.length = m) (ad : Addr) (c : Nat) (hs : a.eval s = v) (hown : OwnR w base v rs) (hx : a.eval x = .slice (some ad) m c) (hc : ∀ j u, (flat4 news)[j]? = some u → w.cell? (ad.add j) = some u)
    (hlen : rs.length + m ≤ 1099511627776) (hbase : base ≤ w.heap.size)
    (h : ∀ v' w', OwnR w' base v' (rs ++ news) → w.grownBy w' v.ownBlock → K (a.put o.dst v') w') :
    if Region.wanted o (yielded ops a.tmps) = true then Oper.wp Try.prog o a w K Q else E := by
  subst hm
  have hw : Region.wanted o (yielded ops a.tmps) = true := by simp [Region.wanted, hgd]
  rw [if_pos hw]
  obtain ⟨v', w', hr, h1, h2, -⟩ := run_appendR w o.type base v rs news ad c hown hc hlen hbase
  unfold Oper.wp execOp
  simp only [ho, resolve, invoke, builtin, Sem.run_bind, Sem.run_pure, Result.andThen_ok, List.map_toArray, List.map_cons, List.map_nil, hs, hx, hr]
  exact h v' w' h1 h2
theorem wp_appendR {ops : Array Oper} {rest : List Oper} {o : Oper} {a : Act} {Q : Exit → Act → World → Prop} (w : World) (hgd : o.guard = none) (s x : Operand)
    (ho : o.op = .call { callee := .builtin .append, args := #[s, x], argTypes := #[34, 34] })
    (base : Nat) (v : Value) (rs news : List R4) (m : Nat) (hm : news.length = m) (ad : Addr) (c : Nat) (hs : a.eval s = v) (hown : OwnR w base v rs) (hx : a.eval x = .slice (some ad) m c) (hc : ∀ j u, (flat4 news)[j]? = some u → w.cell? (ad.add j) = some u)
    (hlen : rs.length + m ≤ 1099511627776) (hbase : base ≤ w.heap.size)
    (h : ∀ v' w', OwnR w' base v' (rs ++ news) → w.grownBy w' v.ownBlock → wpList Try.prog ops Q rest (a.put o.dst v') w') :
    wpList Try.prog ops Q (o :: rest) a w := by
  subst hm
  refine wpList_plain hgd fun K hK => ?_
  obtain ⟨v', w', hr, h1, h2, -⟩ := run_appendR w o.type base v rs news ad c hown hc hlen hbase
  unfold Oper.wp execOp
  simp only [ho, resolve, invoke, builtin, Sem.run_bind, Sem.run_pure, Result.andThen_ok, List.map_toArray, List.map_cons, List.map_nil, hs, hx, hr]
  exact hK _ _ (h v' w' h1 h2)
theorem OwnR.lit0 (w : World) (base g : Nat) (hg : w.heap.size = g) (hb : base ≤ g) : OwnR (w.alloc (.cells #[] 52)) base (.slice (some ⟨g, 0, none⟩) 0 0) [] := by
  subst hg
  have := World.ownsRow_lit (e := 52) (size := 4) w #[] 0 hb (by unfold maxLen; omega) (by simp)
  simpa [OwnR, flat4] using this
set_option maxHeartbeats 1000000 in
theorem cloneR_any (v : Value) (rs : List R4) (w : World) (h : RdR w v rs) (hl : rs.length ≤ 1048576) :
    Calls Try.prog 56 #[v] w fun e w' => ∃ v', e = .returned v' ∧ OwnR w' w.heap.size v' rs ∧ Below w.heap.size w w' := by
  obtain ⟨A, c, rfl, hlc, hm, hc⟩ := h
  have qT : ∀ (w : World) (a : Option Addr) (n c n' c' : Nat), (binOp .eql 34 (.slice a n c) (.slice none n' c')).run Try.prog w = .ok (.bool a.isNone) w := fun w a n c n' c' => Lib.run_eql_slice_nil w _ _ a n c n' c' Try.underlying34
  unfold maxLen at hm
  rcases A with _ | ad
  · have hr : rs = [] := by
      rcases Nat.eq_zero_or_pos rs.length with h0 | h0
      · exact List.eq_nil_of_length_eq_zero h0
      · obtain ⟨b, off, e, -⟩ := hc h0; cases e
    subst hr
    go_enter Try.func56, Try.ntmps56
    go_wp2
    go_ret
    exact ⟨.slice none 0 0, rfl, OwnR.nil_ _ _, Below.refl _ _⟩
  · have hx : ∀ j u, (flat4 rs)[j]? = some u → (w.alloc (.cells #[] 52)).cell? (ad.add j) = some u := by
      rcases Nat.eq_zero_or_pos rs.length with h0 | h0
      · have hr : rs = [] := List.eq_nil_of_length_eq_zero h0
        intro j u hj
        rw [hr] at hj
        simp [flat4] at hj
      · obtain ⟨b, off, e, hb, hf⟩ := hc h0
        injection e with e
        subst e
        exact four_news fun k hk => (hf k hk).keep fun p hp => (below_alloc1 w _).cell (by rw [hp]; exact hb)
    have HX := Lib.hid hx
    have HO := Lib.hid (OwnR.lit0 w w.heap.size w.heap.size rfl (Nat.le_refl _))
    generalize hn : rs.length = n at *
    have HN := Lib.hid hn
    clear hx hc hn
    have hln : ([] : List R4).length + n ≤ 1099511627776 := by simp; omega
    go_enter Try.func56, Try.ntmps56
    go_wp2_with (at_builtin; refine wp_appendR (w.alloc (.cells #[] 52)) rfl (.tmp 5) (.tmp 6) rfl w.heap.size (.slice (some ⟨w.heap.size, 0, none⟩) 0 0) [] rs n HN.out ad c (by simp [Act.eval]) HO.out (by simp [Act.eval]) HX.out hln (by simp) ?_; intro v' w' ho hgr; have HO2 := Lib.hid ho; have HG2 := Lib.hid hgr; clear ho hgr)
    go_ret
    exact ⟨_, rfl, by simpa using HO2.out, Below.grown (below_alloc1 w _) HG2.out (by simp) (fun k hk => (HO.out.lt k hk).1)⟩
end Go.Proofs.Ytdmneccfbfdloaa
