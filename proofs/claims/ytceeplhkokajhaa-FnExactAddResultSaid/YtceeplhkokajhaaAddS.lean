/- FnExactAddResult: spec.AddResult. -/
import Derived.Test.YtceeplhkokajhaaAddR
import Derived.Deep.DeepCutAuto
namespace Go.Proofs.Ytceeplhkokajhaa
open Go.RowKit Go.Sort
set_option maxRecDepth 100000
def NewsO (W : World) (A : Option Addr) (rs : List R4) : Prop := (A = none → rs = []) ∧ ∀ ad, A = some ad → ∀ j u, (flat4 rs)[j]? = some u → W.cell? (ad.add j) = some u
theorem NewsO.alloc {W : World} {A : Option Addr} {rs : List R4} (h : NewsO W A rs) (o : Obj) : NewsO (W.alloc o) A rs :=
  ⟨h.1, fun ad e j u hj => ((below_alloc1 W o).cell (World.block_lt_of_cell? W _ (h.2 ad e j u hj))).trans (h.2 ad e j u hj)⟩
theorem NewsO.of {w : World} {A : Option Addr} {c : Nat} {rs : List R4} (h : RdR w (.slice A rs.length c) rs) : NewsO w A rs := by
  obtain ⟨A', c', e, -, -, hx⟩ := h
  injection e with e1 _ _
  subst e1
  refine ⟨fun e => ?_, fun ad e => ?_⟩
  · rcases Nat.eq_zero_or_pos rs.length with h0 | h0
    · exact List.eq_nil_of_length_eq_zero h0
    · obtain ⟨b, off, e', -⟩ := hx h0
      rw [e] at e'; cases e'
  · rcases Nat.eq_zero_or_pos rs.length with h0 | h0
    · have hr : rs = [] := List.eq_nil_of_length_eq_zero h0
      intro j u hj
      rw [hr] at hj
      simp [flat4] at hj
    · obtain ⟨b, off, e', hb, hf⟩ := hx h0
      rw [e] at e'
      injection e' with e'
      subst e'
      exact four_news hf
theorem run_append_nilR (w : World) (ty : TypeId) (base : Nat) (v : Value) (rs : List R4) (c : Nat) (hown : OwnR w base v rs) :
    (Builtin.append_ #[28, 28] ty #[v, .slice none 0 c]).run Try.prog w = .ok v w := by
  obtain ⟨i0, hi, hz0, hz1, hz2⟩ := info_parts res_info
  rcases hown.2 with ⟨rfl, _⟩ | ⟨g, cap, cur, rfl, _, _, hnc, _⟩
  · simp [Builtin.append_, run_underlying Try.underlying28, sizeOf, typeInfo, hi, Builtin.lenOf, Builtin.firstCells]
  · simp [Builtin.append_, run_underlying Try.underlying28, sizeOf, typeInfo, hi, Builtin.lenOf, Builtin.firstCells, hnc, storeCells]
theorem step_appendRO {ops : Array Oper} {o : Oper} {a : Act} {K : Act → World → Prop} {Q : Exit → Act → World → Prop} {E : Prop} (w : World) (hgd : o.guard = none) (s x : Operand)
    (ho : o.op = .call { callee := .builtin .append, args := #[s, x], argTypes := #[28, 28] })
    (base g0 : Nat) (news : List R4) (m : Nat) (hm : news.length = m) (A : Option Addr) (c : Nat) (hs : a.eval s = .slice (some ⟨g0, 0, none⟩) 0 0) (hown : OwnR w base (.slice (some ⟨g0, 0, none⟩) 0 0) []) (hx : a.eval x = .slice A m c) (hc : NewsO w A news)
    (hlen : m ≤ 1099511627776) (hbase : base ≤ w.heap.size)
    (h : ∀ v' w', OwnR w' base v' news → w.grownBy w' (some g0) → (∀ k, v'.ownBlock = some k → k = g0 ∨ k = w.heap.size) → K (a.put o.dst v') w') :
    if Region.wanted o (yielded ops a.tmps) = true then Oper.wp Try.prog o a w K Q else E := by
  subst hm
  have hw : Region.wanted o (yielded ops a.tmps) = true := by simp [Region.wanted, hgd]
  rw [if_pos hw]
  rcases A with _ | ad
  · have hr := hc.1 rfl
    subst hr
    have hr := run_append_nilR w o.type base (.slice (some ⟨g0, 0, none⟩) 0 0) [] c hown
    unfold Oper.wp execOp
    simp only [ho, resolve, invoke, builtin, Sem.run_bind, Sem.run_pure, Result.andThen_ok, List.map_toArray, List.map_cons, List.map_nil, hs, hx, List.length_nil, hr]
    exact h _ w hown (World.grownBy.refl w _) (fun k hk => .inl (by injection hk with hk; exact hk.symm))
  · obtain ⟨v', w', hr, h1, h2, h3⟩ := run_appendR w o.type base (.slice (some ⟨g0, 0, none⟩) 0 0) [] news ad c hown (hc.2 ad rfl) (by simpa using hlen) hbase
    unfold Oper.wp execOp
    simp only [ho, resolve, invoke, builtin, Sem.run_bind, Sem.run_pure, Result.andThen_ok, List.map_toArray, List.map_cons, List.map_nil, hs, hx, hr]
    exact h v' w' (by simpa using h1) h2 (fun k hk => by
      rcases h3 with e | e
      · rw [e] at hk; injection hk with hk; exact .inl hk.symm
      · rw [e] at hk; injection hk with hk; exact .inr hk.symm)
theorem four_new' (w : World) (g : Nat) (ra rb rc rd : Int) (t : TypeId) (hg : w.heap.size = g) : Four (w.alloc (.cells #[.int .i64 ra, .int .i64 rb, .int .i64 rc, .int .i64 rd] t)) g 0 (ra, rb, rc, rd) := by
  subst hg; exact four_new w (ra, rb, rc, rd) t
theorem Four.alloc {w : World} {b o : Nat} {r : R4} (h : Four w b o r) (x : Obj) : Four (w.alloc x) b o r := h.below (below_alloc1 w x)
theorem OwnR.alloc' {w : World} {base : Nat} {v : Value} {rs : List R4} (h : OwnR w base v rs) (x : Obj) : OwnR (w.alloc x) base v rs := World.ownsRow.alloc h x
theorem BoxF.new' (w : World) (g : Nat) (s : Int) (v : Value) (t : TypeId) (hg : w.heap.size = g) : BoxF (w.alloc (.cells #[.int .i64 s, v] t)) g s v := by
  subst hg; exact BoxF.new w s v t
theorem BoxF.alloc' {w : World} {g : Nat} {s : Int} {v : Value} (h : BoxF w g s v) (x : Obj) : BoxF (w.alloc x) g s v := h.below (below_alloc1 w x)
def SP (g : Nat) (s : Int) (sl : Value) (ra rb rc rd : Int) (W : World) : Prop := W.cell? ⟨g, 0, none⟩ = some (.int .i64 s) ∧ W.cell? ⟨g, 1, none⟩ = some sl ∧ W.cell? ⟨g + 1, 0, none⟩ = some (.int .i64 ra) ∧ W.cell? ⟨g + 1, 1, none⟩ = some (.int .i64 rb) ∧ W.cell? ⟨g + 1, 2, none⟩ = some (.int .i64 rc) ∧ W.cell? ⟨g + 1, 3, none⟩ = some (.int .i64 rd)
theorem SP.below {g : Nat} {s : Int} {sl : Value} {ra rb rc rd : Int} {W W' : World} (h : SP g s sl ra rb rc rd W) (hb : Below W.heap.size W W') : SP g s sl ra rb rc rd W' := by
  have k : ∀ {p : Addr} {v : Value}, W.cell? p = some v → W'.cell? p = some v := fun h => (hb.cell (World.block_lt_of_cell? W _ h)).trans h
  exact ⟨k h.1, k h.2.1, k h.2.2.1, k h.2.2.2.1, k h.2.2.2.2.1, k h.2.2.2.2.2⟩
theorem SP.alloc {g : Nat} {s : Int} {sl : Value} {ra rb rc rd : Int} {W : World} (h : SP g s sl ra rb rc rd W) (o : Obj) : SP g s sl ra rb rc rd (W.alloc o) := h.below (below_alloc1 W o)
theorem SP.kept {g B : Nat} {s : Int} {sl : Value} {ra rb rc rd : Int} {W W' : World} {row : Option Nat} (h : SP g s sl ra rb rc rd W) (hg : W.grownBy W' row) (hr : ∀ k, row = some k → B ≤ k) (hB : g + 1 < B) : SP g s sl ra rb rc rd W' := by
  have k : ∀ {p : Addr} {v : Value}, p.block ≤ g + 1 → W.cell? p = some v → W'.cell? p = some v := fun hp h => (World.cell?_of_block (hg.block _ (World.block_lt_of_cell? W _ h) (fun e => by have := hr _ e.symm; omega))).trans h
  exact ⟨k (by show g ≤ g + 1; omega) h.1, k (by show g ≤ g + 1; omega) h.2.1, k (Nat.le_refl _) h.2.2.1, k (Nat.le_refl _) h.2.2.2.1, k (Nat.le_refl _) h.2.2.2.2.1, k (Nat.le_refl _) h.2.2.2.2.2⟩
theorem SP.set {g b o : Nat} {s : Int} {sl : Value} {ra rb rc rd : Int} {W : World} {v : Value} (h : SP g s sl ra rb rc rd W) (hb : g + 1 < b) : SP g s sl ra rb rc rd (W.setCell ⟨b, o, none⟩ v) :=
  h.kept (B := b) (setCell_grown W ⟨b, o, none⟩ v) (fun k hk => by injection hk with hk; exact Nat.le_of_eq hk) hb
theorem step_appendR2 {ops : Array Oper} {o : Oper} {a : Act} {K : Act → World → Prop} {Q : Exit → Act → World → Prop} {E : Prop} (w : World) (hgd : o.guard = none) (s x : Operand)
    (ho : o.op = .call { callee := .builtin .append, args := #[s, x], argTypes := #[28, 28] })
    (base : Nat) (v : Value) (rs news : List R4) (m : Nat) (hm : news.length = m) (ad : Addr) (c : Nat) (hs : a.eval s = v) (hown : OwnR w base v rs) (hx : a.eval x = .slice (some ad) m c) (hc : ∀ j u, (flat4 news)[j]? = some u → w.cell? (ad.add j) = some u)
    (hlen : rs.length + m ≤ 1099511627776) (hbase : base ≤ w.heap.size)
    (h : ∀ v' w', OwnR w' base v' (rs ++ news) → w.grownBy w' v.ownBlock → (v'.ownBlock = v.ownBlock ∨ v'.ownBlock = some w.heap.size) → K (a.put o.dst v') w') :
    if Region.wanted o (yielded ops a.tmps) = true then Oper.wp Try.prog o a w K Q else E := by
  subst hm
  have hw : Region.wanted o (yielded ops a.tmps) = true := by simp [Region.wanted, hgd]
  rw [if_pos hw]
  obtain ⟨v', w', hr, h1, h2, h3⟩ := run_appendR w o.type base v rs news ad c hown hc hlen hbase
  unfold Oper.wp execOp
  simp only [ho, resolve, invoke, builtin, Sem.run_bind, Sem.run_pure, Result.andThen_ok, List.map_toArray, List.map_cons, List.map_nil, hs, hx, hr]
  exact h v' w' h1 h2 h3
theorem nb6 {W : World} {g : Nat} {s : Int} {sl v5 v6 : Value} (hx : BoxF W g s sl) (hat : v6.ownBlock = v5.ownBlock ∨ v6.ownBlock = some W.heap.size) (hn : ∀ k, v5.ownBlock = some k → k ≠ g) : v6.ownBlock = none ∨ v6.ownBlock ≠ some g := by
  right
  intro e
  rcases hat with h | h
  · exact hn g (by rw [← h]; exact e) rfl
  · have := hx.gt
    rw [h] at e
    injection e with e
    omega
def AddCut (w w0 : World) (s : Int) (A : Option Addr) (c : Nat) (rs : List R4) (ra rb rc rd : Int) (s6 : Value) (wx : World) : Prop :=
  ∃ gB Y6 c6, s6 = .pointer (some ⟨gB, 0, none⟩) ∧ BoxF wx gB s (.slice Y6 (rs.length + 1) c6) ∧ OwnR wx w0.heap.size (.slice Y6 (rs.length + 1) c6) (rs ++ [(ra, rb, rc, rd)]) ∧ SP w.heap.size s (.slice A rs.length c) ra rb rc rd wx ∧ Below w0.heap.size w0 wx
--BEGIN specAdd
set_option maxHeartbeats 8000000 in
theorem specAdd (s : Int) (sl : Value) (rs : List R4) (ra rb rc rd : Int) (w : World) (h : RdR w sl rs) (hlen : rs.length ≤ 1048576) :
    Calls Try.prog 10 #[.agg #[.int .i64 s, sl], .agg #[.int .i64 ra, .int .i64 rb, .int .i64 rc, .int .i64 rd]] w fun e w' => ∃ sl', e = .returned (.tuple #[.agg #[.int .i64 (adS s rs (ra, rb, rc, rd)), sl'], .bool (adOk s rs (ra, rb, rc, rd))]) ∧ OwnR w' w.heap.size sl' (adRs s rs (ra, rb, rc, rd)) ∧ Below w.heap.size w w' := by
  have HR := Lib.hid h
  obtain ⟨A, c, rfl, -, hm, -⟩ := h
  unfold maxLen at hm
  have b3 := ((below_alloc1 w (.cells #[.int .i64 s, .slice A rs.length c] 30)).alloc (by simp) (.cells #[.int .i64 ra, .int .i64 rb, .int .i64 rc, .int .i64 rd] 34)).alloc (by simp; omega) (.cells #[.int .i64 0, .slice none 0 0] 30)
  have x3 := ((TBox.new w s (.slice A rs.length c) 30).below (below_alloc1 _ (.cells #[.int .i64 ra, .int .i64 rb, .int .i64 rc, .int .i64 rd] 34))).below (below_alloc1 _ (.cells #[.int .i64 0, .slice none 0 0] 30))
  have q3 := (four_new (w.alloc (.cells #[.int .i64 s, .slice A rs.length c] 30)) (ra, rb, rc, rd) 34).below (below_alloc1 _ (.cells #[.int .i64 0, .slice none 0 0] 30))
  have t3 := BoxF.new ((w.alloc (.cells #[.int .i64 s, .slice A rs.length c] 30)).alloc (.cells #[.int .i64 ra, .int .i64 rb, .int .i64 rc, .int .i64 rd] 34)) 0 (.slice none 0 0) 30
  have hsz : (((w.alloc (.cells #[.int .i64 s, .slice A rs.length c] 30)).alloc (.cells #[.int .i64 ra, .int .i64 rb, .int .i64 rc, .int .i64 rd] 34)).alloc (.cells #[.int .i64 0, .slice none 0 0] 30)).heap.size = w.heap.size + 1 + 1 + 1 := by simp
  simp only [World.size_alloc] at q3 t3
  have HM : Hid (rs.length = rs.length) := rfl
  go_enter Try.func10, Try.ntmps10
  go_wp2_with fail
  generalize ((w.alloc (.cells #[.int .i64 s, .slice A rs.length c] 30)).alloc (.cells #[.int .i64 ra, .int .i64 rb, .int .i64 rc, .int .i64 rd] 34)).alloc (.cells #[.int .i64 0, .slice none 0 0] 30) = w0 at *
  have HB0 := Lib.hid b3
  have HX0 := Lib.hid x3
  have HQ0 := Lib.hid q3
  have HT0 := Lib.hid t3
  have hszl : w.heap.size + 1 + 1 < w0.heap.size := by omega
  clear b3 x3 q3 t3 hsz
  have K0 := Lib.hid (show SP w.heap.size s (.slice A rs.length c) ra rb rc rd w0 from ⟨HX0.out.1, HX0.out.2, HQ0.out.1, HQ0.out.2.1, HQ0.out.2.2.1, HQ0.out.2.2.2⟩)
  have KD := Lib.hid (show SP w.heap.size s (.slice A rs.length c) ra rb rc rd w0.drew from K0.out)
  have ND := Lib.hid (NewsO.of (HR.out.below (show Below w.heap.size w w0.drew from HB0.out.drew)))
  have BD := Lib.hid (show Below w0.heap.size w0 w0.drew from (Below.refl _ _).drew)
  have HRLN : Hid ((rs ++ [(ra, rb, rc, rd)]).length = rs.length + 1) := by unfold Hid; simp
  have hl1 : rs.length + 1 ≤ 1099511627776 := by omega
  have hl2 : rs.length ≤ 1099511627776 := by omega
  go_cut [6] (fun s6 wx => AddCut w w0 s A c rs ra rb rc rd s6 wx)
  case first =>
    go_region_held3 (fun W => W.cell? ⟨w.heap.size, 0, none⟩ = some (.int .i64 s) ∧ W.cell? ⟨w.heap.size, 1, none⟩ = some (.slice A rs.length c) ∧ W.cell? ⟨w.heap.size + 1, 0, none⟩ = some (.int .i64 ra) ∧ W.cell? ⟨w.heap.size + 1, 1, none⟩ = some (.int .i64 rb) ∧ W.cell? ⟨w.heap.size + 1, 2, none⟩ = some (.int .i64 rc) ∧ W.cell? ⟨w.heap.size + 1, 3, none⟩ = some (.int .i64 rd))
      (first | exact K0.out | exact KD.out | exact KD.out.alloc _ | exact (KD.out.alloc _).alloc _ | exact ((KD.out.alloc _).alloc _).alloc _ | exact K5.out | exact K5.out.alloc _ | exact (K5.out.alloc _).alloc _ | exact K6.out | exact K6.out.alloc _ | exact (K6.out.set (by omega)).set (by omega))
      (first
        | (refine step_appendRO (((w0.drew.alloc (.cells #[.int .i64 0, .slice none 0 0] 30)).alloc (.cells #[.int .i64 ra, .int .i64 rb, .int .i64 rc, .int .i64 rd] 34)).alloc (.cells #[] 34)) rfl (.tmp 9) (.tmp 11) rfl w0.heap.size (w0.heap.size + 1 + 1) rs rs.length rfl A c (by simp [Act.eval]) (OwnR.lit0 _ w0.heap.size (w0.heap.size + 1 + 1) (by simp) (by omega)) (by simp [Act.eval]) (((ND.out.alloc _).alloc _).alloc _) hl2 (by first | (simp; done) | (simp; omega)) ?_; intro v5 w5 ho5 hg5 hat5; have HO5 := Lib.hid ho5; have K5 := Lib.hid ((((KD.out.alloc _).alloc _).alloc _).kept (B := w0.heap.size) hg5 (fun k hk => by injection hk with hk; omega) (by omega)); have hs5 : w0.heap.size ≤ w5.heap.size := Nat.le_trans (by first | (simp; done) | (simp; omega)) hg5.size; have BL5 := Lib.hid (Below.grown (show Below w0.heap.size w0 (((w0.drew.alloc (.cells #[.int .i64 0, .slice none 0 0] 30)).alloc (.cells #[.int .i64 ra, .int .i64 rb, .int .i64 rc, .int .i64 rd] 34)).alloc (.cells #[] 34)) from (((BD.out.alloc (by first | exact Nat.le_refl _ | (simp; done) | (simp; omega)) _).alloc (by first | exact Nat.le_refl _ | (simp; done) | (simp; omega)) _).alloc (by first | exact Nat.le_refl _ | (simp; done) | (simp; omega)) _)) hg5 (by first | (simp; done) | (simp; omega)) (fun k hk => by injection hk with hk; omega)); have HP5 := Lib.hid (four_kept ((four_new' _ (w0.heap.size + 1) ra rb rc rd 34 (by simp)).alloc _) hg5 (by intro h; injection h with h; omega)); have HX5 := Lib.hid ((((BoxF.new' _ (w0.heap.size) 0 (.slice none 0 0) 30 (by simp)).alloc' _).alloc' _).kept hg5 (by intro h; injection h with h; omega)); have v0 := HX5.out.1.1; have v1 := HX5.out.1.2; have f0 := HX5.out.2 0; have f1 := HX5.out.2 1; have HNB := Lib.hid (show ∀ k, v5.ownBlock = some k → k ≠ w0.heap.size from fun k hk => by (rcases hat5 k hk with e | e <;> rw [e] <;> simp <;> omega)); clear ho5 hg5 hat5)
        | (refine step_appendRO (((w0.drew.alloc (.cells #[.int .i64 0, .slice none 0 0] 30)).alloc (.cells #[] 34)).alloc (.cells #[.int .i64 ra, .int .i64 rb, .int .i64 rc, .int .i64 rd] 34)) rfl (.tmp 9) (.tmp 11) rfl w0.heap.size (w0.heap.size + 1) rs rs.length rfl A c (by simp [Act.eval]) ((OwnR.lit0 _ w0.heap.size (w0.heap.size + 1) (by simp) (by omega)).alloc' _) (by simp [Act.eval]) (((ND.out.alloc _).alloc _).alloc _) hl2 (by first | (simp; done) | (simp; omega)) ?_; intro v5 w5 ho5 hg5 hat5; have HO5 := Lib.hid ho5; have K5 := Lib.hid ((((KD.out.alloc _).alloc _).alloc _).kept (B := w0.heap.size) hg5 (fun k hk => by injection hk with hk; omega) (by omega)); have hs5 : w0.heap.size ≤ w5.heap.size := Nat.le_trans (by first | (simp; done) | (simp; omega)) hg5.size; have BL5 := Lib.hid (Below.grown (show Below w0.heap.size w0 (((w0.drew.alloc (.cells #[.int .i64 0, .slice none 0 0] 30)).alloc (.cells #[] 34)).alloc (.cells #[.int .i64 ra, .int .i64 rb, .int .i64 rc, .int .i64 rd] 34)) from (((BD.out.alloc (by first | exact Nat.le_refl _ | (simp; done) | (simp; omega)) _).alloc (by first | exact Nat.le_refl _ | (simp; done) | (simp; omega)) _).alloc (by first | exact Nat.le_refl _ | (simp; done) | (simp; omega)) _)) hg5 (by first | (simp; done) | (simp; omega)) (fun k hk => by injection hk with hk; omega)); have HP5 := Lib.hid (four_kept (four_new' _ (w0.heap.size + 1 + 1) ra rb rc rd 34 (by simp)) hg5 (by intro h; injection h with h; omega)); have HX5 := Lib.hid ((((BoxF.new' _ (w0.heap.size) 0 (.slice none 0 0) 30 (by simp)).alloc' _).alloc' _).kept hg5 (by intro h; injection h with h; omega)); have v0 := HX5.out.1.1; have v1 := HX5.out.1.2; have f0 := HX5.out.2 0; have f1 := HX5.out.2 1; have HNB := Lib.hid (show ∀ k, v5.ownBlock = some k → k ≠ w0.heap.size from fun k hk => by (rcases hat5 k hk with e | e <;> rw [e] <;> simp <;> omega)); clear ho5 hg5 hat5)
        | (refine step_appendRO (((w0.drew.alloc (.cells #[.int .i64 ra, .int .i64 rb, .int .i64 rc, .int .i64 rd] 34)).alloc (.cells #[.int .i64 0, .slice none 0 0] 30)).alloc (.cells #[] 34)) rfl (.tmp 9) (.tmp 11) rfl w0.heap.size (w0.heap.size + 1 + 1) rs rs.length rfl A c (by simp [Act.eval]) (OwnR.lit0 _ w0.heap.size (w0.heap.size + 1 + 1) (by simp) (by omega)) (by simp [Act.eval]) (((ND.out.alloc _).alloc _).alloc _) hl2 (by first | (simp; done) | (simp; omega)) ?_; intro v5 w5 ho5 hg5 hat5; have HO5 := Lib.hid ho5; have K5 := Lib.hid ((((KD.out.alloc _).alloc _).alloc _).kept (B := w0.heap.size) hg5 (fun k hk => by injection hk with hk; omega) (by omega)); have hs5 : w0.heap.size ≤ w5.heap.size := Nat.le_trans (by first | (simp; done) | (simp; omega)) hg5.size; have BL5 := Lib.hid (Below.grown (show Below w0.heap.size w0 (((w0.drew.alloc (.cells #[.int .i64 ra, .int .i64 rb, .int .i64 rc, .int .i64 rd] 34)).alloc (.cells #[.int .i64 0, .slice none 0 0] 30)).alloc (.cells #[] 34)) from (((BD.out.alloc (by first | exact Nat.le_refl _ | (simp; done) | (simp; omega)) _).alloc (by first | exact Nat.le_refl _ | (simp; done) | (simp; omega)) _).alloc (by first | exact Nat.le_refl _ | (simp; done) | (simp; omega)) _)) hg5 (by first | (simp; done) | (simp; omega)) (fun k hk => by injection hk with hk; omega)); have HP5 := Lib.hid (four_kept (((four_new' _ (w0.heap.size) ra rb rc rd 34 (by simp)).alloc _).alloc _) hg5 (by intro h; injection h with h; omega)); have HX5 := Lib.hid (((BoxF.new' _ (w0.heap.size + 1) 0 (.slice none 0 0) 30 (by simp)).alloc' _).kept hg5 (by intro h; injection h with h; omega)); have v0 := HX5.out.1.1; have v1 := HX5.out.1.2; have f0 := HX5.out.2 0; have f1 := HX5.out.2 1; have HNB := Lib.hid (show ∀ k, v5.ownBlock = some k → k ≠ w0.heap.size + 1 from fun k hk => by (rcases hat5 k hk with e | e <;> rw [e] <;> simp <;> omega)); clear ho5 hg5 hat5)
        | (refine step_appendRO (((w0.drew.alloc (.cells #[.int .i64 ra, .int .i64 rb, .int .i64 rc, .int .i64 rd] 34)).alloc (.cells #[] 34)).alloc (.cells #[.int .i64 0, .slice none 0 0] 30)) rfl (.tmp 9) (.tmp 11) rfl w0.heap.size (w0.heap.size + 1) rs rs.length rfl A c (by simp [Act.eval]) ((OwnR.lit0 _ w0.heap.size (w0.heap.size + 1) (by simp) (by omega)).alloc' _) (by simp [Act.eval]) (((ND.out.alloc _).alloc _).alloc _) hl2 (by first | (simp; done) | (simp; omega)) ?_; intro v5 w5 ho5 hg5 hat5; have HO5 := Lib.hid ho5; have K5 := Lib.hid ((((KD.out.alloc _).alloc _).alloc _).kept (B := w0.heap.size) hg5 (fun k hk => by injection hk with hk; omega) (by omega)); have hs5 : w0.heap.size ≤ w5.heap.size := Nat.le_trans (by first | (simp; done) | (simp; omega)) hg5.size; have BL5 := Lib.hid (Below.grown (show Below w0.heap.size w0 (((w0.drew.alloc (.cells #[.int .i64 ra, .int .i64 rb, .int .i64 rc, .int .i64 rd] 34)).alloc (.cells #[] 34)).alloc (.cells #[.int .i64 0, .slice none 0 0] 30)) from (((BD.out.alloc (by first | exact Nat.le_refl _ | (simp; done) | (simp; omega)) _).alloc (by first | exact Nat.le_refl _ | (simp; done) | (simp; omega)) _).alloc (by first | exact Nat.le_refl _ | (simp; done) | (simp; omega)) _)) hg5 (by first | (simp; done) | (simp; omega)) (fun k hk => by injection hk with hk; omega)); have HP5 := Lib.hid (four_kept (((four_new' _ (w0.heap.size) ra rb rc rd 34 (by simp)).alloc _).alloc _) hg5 (by intro h; injection h with h; omega)); have HX5 := Lib.hid ((BoxF.new' _ (w0.heap.size + 1 + 1) 0 (.slice none 0 0) 30 (by simp)).kept hg5 (by intro h; injection h with h; omega)); have v0 := HX5.out.1.1; have v1 := HX5.out.1.2; have f0 := HX5.out.2 0; have f1 := HX5.out.2 1; have HNB := Lib.hid (show ∀ k, v5.ownBlock = some k → k ≠ w0.heap.size + 1 + 1 from fun k hk => by (rcases hat5 k hk with e | e <;> rw [e] <;> simp <;> omega)); clear ho5 hg5 hat5)
        | (refine step_appendRO (((w0.drew.alloc (.cells #[] 34)).alloc (.cells #[.int .i64 0, .slice none 0 0] 30)).alloc (.cells #[.int .i64 ra, .int .i64 rb, .int .i64 rc, .int .i64 rd] 34)) rfl (.tmp 9) (.tmp 11) rfl w0.heap.size (w0.heap.size) rs rs.length rfl A c (by simp [Act.eval]) (((OwnR.lit0 _ w0.heap.size (w0.heap.size) (by simp) (by omega)).alloc' _).alloc' _) (by simp [Act.eval]) (((ND.out.alloc _).alloc _).alloc _) hl2 (by first | (simp; done) | (simp; omega)) ?_; intro v5 w5 ho5 hg5 hat5; have HO5 := Lib.hid ho5; have K5 := Lib.hid ((((KD.out.alloc _).alloc _).alloc _).kept (B := w0.heap.size) hg5 (fun k hk => by injection hk with hk; omega) (by omega)); have hs5 : w0.heap.size ≤ w5.heap.size := Nat.le_trans (by first | (simp; done) | (simp; omega)) hg5.size; have BL5 := Lib.hid (Below.grown (show Below w0.heap.size w0 (((w0.drew.alloc (.cells #[] 34)).alloc (.cells #[.int .i64 0, .slice none 0 0] 30)).alloc (.cells #[.int .i64 ra, .int .i64 rb, .int .i64 rc, .int .i64 rd] 34)) from (((BD.out.alloc (by first | exact Nat.le_refl _ | (simp; done) | (simp; omega)) _).alloc (by first | exact Nat.le_refl _ | (simp; done) | (simp; omega)) _).alloc (by first | exact Nat.le_refl _ | (simp; done) | (simp; omega)) _)) hg5 (by first | (simp; done) | (simp; omega)) (fun k hk => by injection hk with hk; omega)); have HP5 := Lib.hid (four_kept (four_new' _ (w0.heap.size + 1 + 1) ra rb rc rd 34 (by simp)) hg5 (by intro h; injection h with h; omega)); have HX5 := Lib.hid (((BoxF.new' _ (w0.heap.size + 1) 0 (.slice none 0 0) 30 (by simp)).alloc' _).kept hg5 (by intro h; injection h with h; omega)); have v0 := HX5.out.1.1; have v1 := HX5.out.1.2; have f0 := HX5.out.2 0; have f1 := HX5.out.2 1; have HNB := Lib.hid (show ∀ k, v5.ownBlock = some k → k ≠ w0.heap.size + 1 from fun k hk => by (rcases hat5 k hk with e | e <;> rw [e] <;> simp <;> omega)); clear ho5 hg5 hat5)
        | (refine step_appendRO (((w0.drew.alloc (.cells #[] 34)).alloc (.cells #[.int .i64 ra, .int .i64 rb, .int .i64 rc, .int .i64 rd] 34)).alloc (.cells #[.int .i64 0, .slice none 0 0] 30)) rfl (.tmp 9) (.tmp 11) rfl w0.heap.size (w0.heap.size) rs rs.length rfl A c (by simp [Act.eval]) (((OwnR.lit0 _ w0.heap.size (w0.heap.size) (by simp) (by omega)).alloc' _).alloc' _) (by simp [Act.eval]) (((ND.out.alloc _).alloc _).alloc _) hl2 (by first | (simp; done) | (simp; omega)) ?_; intro v5 w5 ho5 hg5 hat5; have HO5 := Lib.hid ho5; have K5 := Lib.hid ((((KD.out.alloc _).alloc _).alloc _).kept (B := w0.heap.size) hg5 (fun k hk => by injection hk with hk; omega) (by omega)); have hs5 : w0.heap.size ≤ w5.heap.size := Nat.le_trans (by first | (simp; done) | (simp; omega)) hg5.size; have BL5 := Lib.hid (Below.grown (show Below w0.heap.size w0 (((w0.drew.alloc (.cells #[] 34)).alloc (.cells #[.int .i64 ra, .int .i64 rb, .int .i64 rc, .int .i64 rd] 34)).alloc (.cells #[.int .i64 0, .slice none 0 0] 30)) from (((BD.out.alloc (by first | exact Nat.le_refl _ | (simp; done) | (simp; omega)) _).alloc (by first | exact Nat.le_refl _ | (simp; done) | (simp; omega)) _).alloc (by first | exact Nat.le_refl _ | (simp; done) | (simp; omega)) _)) hg5 (by first | (simp; done) | (simp; omega)) (fun k hk => by injection hk with hk; omega)); have HP5 := Lib.hid (four_kept ((four_new' _ (w0.heap.size + 1) ra rb rc rd 34 (by simp)).alloc _) hg5 (by intro h; injection h with h; omega)); have HX5 := Lib.hid ((BoxF.new' _ (w0.heap.size + 1 + 1) 0 (.slice none 0 0) 30 (by simp)).kept hg5 (by intro h; injection h with h; omega)); have v0 := HX5.out.1.1; have v1 := HX5.out.1.2; have f0 := HX5.out.2 0; have f1 := HX5.out.2 1; have HNB := Lib.hid (show ∀ k, v5.ownBlock = some k → k ≠ w0.heap.size + 1 + 1 from fun k hk => by (rcases hat5 k hk with e | e <;> rw [e] <;> simp <;> omega)); clear ho5 hg5 hat5)
        | (refine step_appendRO ((w0.drew.alloc (.cells #[.int .i64 0, .slice none 0 0] 30)).alloc (.cells #[] 34)) rfl (.tmp 9) (.tmp 11) rfl w0.heap.size (w0.heap.size + 1) rs rs.length rfl A c (by simp [Act.eval]) (OwnR.lit0 _ w0.heap.size (w0.heap.size + 1) (by simp) (by omega)) (by simp [Act.eval]) ((ND.out.alloc _).alloc _) hl2 (by first | (simp; done) | (simp; omega)) ?_; intro v5 w5 ho5 hg5 hat5; have HO5 := Lib.hid ho5; have K5 := Lib.hid (((KD.out.alloc _).alloc _).kept (B := w0.heap.size) hg5 (fun k hk => by injection hk with hk; omega) (by omega)); have hs5 : w0.heap.size ≤ w5.heap.size := Nat.le_trans (by first | (simp; done) | (simp; omega)) hg5.size; have BL5 := Lib.hid (Below.grown (show Below w0.heap.size w0 ((w0.drew.alloc (.cells #[.int .i64 0, .slice none 0 0] 30)).alloc (.cells #[] 34)) from ((BD.out.alloc (by first | exact Nat.le_refl _ | (simp; done) | (simp; omega)) _).alloc (by first | exact Nat.le_refl _ | (simp; done) | (simp; omega)) _)) hg5 (by first | (simp; done) | (simp; omega)) (fun k hk => by injection hk with hk; omega)); have HX5 := Lib.hid (((BoxF.new' _ (w0.heap.size) 0 (.slice none 0 0) 30 (by simp)).alloc' _).kept hg5 (by intro h; injection h with h; omega)); have v0 := HX5.out.1.1; have v1 := HX5.out.1.2; have f0 := HX5.out.2 0; have f1 := HX5.out.2 1; have HNB := Lib.hid (show ∀ k, v5.ownBlock = some k → k ≠ w0.heap.size from fun k hk => by (rcases hat5 k hk with e | e <;> rw [e] <;> simp <;> omega)); clear ho5 hg5 hat5)
        | (refine step_appendRO ((w0.drew.alloc (.cells #[.int .i64 ra, .int .i64 rb, .int .i64 rc, .int .i64 rd] 34)).alloc (.cells #[] 34)) rfl (.tmp 9) (.tmp 11) rfl w0.heap.size (w0.heap.size + 1) rs rs.length rfl A c (by simp [Act.eval]) (OwnR.lit0 _ w0.heap.size (w0.heap.size + 1) (by simp) (by omega)) (by simp [Act.eval]) ((ND.out.alloc _).alloc _) hl2 (by first | (simp; done) | (simp; omega)) ?_; intro v5 w5 ho5 hg5 hat5; have HO5 := Lib.hid ho5; have K5 := Lib.hid (((KD.out.alloc _).alloc _).kept (B := w0.heap.size) hg5 (fun k hk => by injection hk with hk; omega) (by omega)); have hs5 : w0.heap.size ≤ w5.heap.size := Nat.le_trans (by first | (simp; done) | (simp; omega)) hg5.size; have BL5 := Lib.hid (Below.grown (show Below w0.heap.size w0 ((w0.drew.alloc (.cells #[.int .i64 ra, .int .i64 rb, .int .i64 rc, .int .i64 rd] 34)).alloc (.cells #[] 34)) from ((BD.out.alloc (by first | exact Nat.le_refl _ | (simp; done) | (simp; omega)) _).alloc (by first | exact Nat.le_refl _ | (simp; done) | (simp; omega)) _)) hg5 (by first | (simp; done) | (simp; omega)) (fun k hk => by injection hk with hk; omega)); have HP5 := Lib.hid (four_kept ((four_new' _ (w0.heap.size) ra rb rc rd 34 (by simp)).alloc _) hg5 (by intro h; injection h with h; omega)); clear ho5 hg5 hat5)
        | (refine step_appendRO ((w0.drew.alloc (.cells #[] 34)).alloc (.cells #[.int .i64 0, .slice none 0 0] 30)) rfl (.tmp 9) (.tmp 11) rfl w0.heap.size (w0.heap.size) rs rs.length rfl A c (by simp [Act.eval]) ((OwnR.lit0 _ w0.heap.size (w0.heap.size) (by simp) (by omega)).alloc' _) (by simp [Act.eval]) ((ND.out.alloc _).alloc _) hl2 (by first | (simp; done) | (simp; omega)) ?_; intro v5 w5 ho5 hg5 hat5; have HO5 := Lib.hid ho5; have K5 := Lib.hid (((KD.out.alloc _).alloc _).kept (B := w0.heap.size) hg5 (fun k hk => by injection hk with hk; omega) (by omega)); have hs5 : w0.heap.size ≤ w5.heap.size := Nat.le_trans (by first | (simp; done) | (simp; omega)) hg5.size; have BL5 := Lib.hid (Below.grown (show Below w0.heap.size w0 ((w0.drew.alloc (.cells #[] 34)).alloc (.cells #[.int .i64 0, .slice none 0 0] 30)) from ((BD.out.alloc (by first | exact Nat.le_refl _ | (simp; done) | (simp; omega)) _).alloc (by first | exact Nat.le_refl _ | (simp; done) | (simp; omega)) _)) hg5 (by first | (simp; done) | (simp; omega)) (fun k hk => by injection hk with hk; omega)); have HX5 := Lib.hid ((BoxF.new' _ (w0.heap.size + 1) 0 (.slice none 0 0) 30 (by simp)).kept hg5 (by intro h; injection h with h; omega)); have v0 := HX5.out.1.1; have v1 := HX5.out.1.2; have f0 := HX5.out.2 0; have f1 := HX5.out.2 1; have HNB := Lib.hid (show ∀ k, v5.ownBlock = some k → k ≠ w0.heap.size + 1 from fun k hk => by (rcases hat5 k hk with e | e <;> rw [e] <;> simp <;> omega)); clear ho5 hg5 hat5)
        | (refine step_appendRO ((w0.drew.alloc (.cells #[] 34)).alloc (.cells #[.int .i64 ra, .int .i64 rb, .int .i64 rc, .int .i64 rd] 34)) rfl (.tmp 9) (.tmp 11) rfl w0.heap.size (w0.heap.size) rs rs.length rfl A c (by simp [Act.eval]) ((OwnR.lit0 _ w0.heap.size (w0.heap.size) (by simp) (by omega)).alloc' _) (by simp [Act.eval]) ((ND.out.alloc _).alloc _) hl2 (by first | (simp; done) | (simp; omega)) ?_; intro v5 w5 ho5 hg5 hat5; have HO5 := Lib.hid ho5; have K5 := Lib.hid (((KD.out.alloc _).alloc _).kept (B := w0.heap.size) hg5 (fun k hk => by injection hk with hk; omega) (by omega)); have hs5 : w0.heap.size ≤ w5.heap.size := Nat.le_trans (by first | (simp; done) | (simp; omega)) hg5.size; have BL5 := Lib.hid (Below.grown (show Below w0.heap.size w0 ((w0.drew.alloc (.cells #[] 34)).alloc (.cells #[.int .i64 ra, .int .i64 rb, .int .i64 rc, .int .i64 rd] 34)) from ((BD.out.alloc (by first | exact Nat.le_refl _ | (simp; done) | (simp; omega)) _).alloc (by first | exact Nat.le_refl _ | (simp; done) | (simp; omega)) _)) hg5 (by first | (simp; done) | (simp; omega)) (fun k hk => by injection hk with hk; omega)); have HP5 := Lib.hid (four_kept (four_new' _ (w0.heap.size + 1) ra rb rc rd 34 (by simp)) hg5 (by intro h; injection h with h; omega)); clear ho5 hg5 hat5)
        | (refine step_appendRO (w0.drew.alloc (.cells #[] 34)) rfl (.tmp 9) (.tmp 11) rfl w0.heap.size (w0.heap.size) rs rs.length rfl A c (by simp [Act.eval]) (OwnR.lit0 _ w0.heap.size (w0.heap.size) (by simp) (by omega)) (by simp [Act.eval]) (ND.out.alloc _) hl2 (by first | (simp; done) | (simp; omega)) ?_; intro v5 w5 ho5 hg5 hat5; have HO5 := Lib.hid ho5; have K5 := Lib.hid ((KD.out.alloc _).kept (B := w0.heap.size) hg5 (fun k hk => by injection hk with hk; omega) (by omega)); have hs5 : w0.heap.size ≤ w5.heap.size := Nat.le_trans (by first | (simp; done) | (simp; omega)) hg5.size; have BL5 := Lib.hid (Below.grown (show Below w0.heap.size w0 (w0.drew.alloc (.cells #[] 34)) from (BD.out.alloc (by first | exact Nat.le_refl _ | (simp; done) | (simp; omega)) _)) hg5 (by first | (simp; done) | (simp; omega)) (fun k hk => by injection hk with hk; omega)); clear ho5 hg5 hat5)
        | (refine step_appendR2 w5 rfl (.tmp 12) (.tmp 14) rfl w0.heap.size v5 rs [(ra, rb, rc, rd)] 1 rfl ⟨_, 0, none⟩ 1 (by simp [Act.eval]) HO5.out (by simp [Act.eval]) (four_one HP5.out) hl1 (Nat.le_trans BL5.out.size (by first | (simp; done) | (simp; omega))) ?_; intro v6 w6 ho6 hg6 hat6; have HN6 := Lib.hid (nb6 HX5.out hat6 HNB.out); obtain ⟨Y6, c6, e6, -, -, -⟩ := ho6.form; rw [HRLN.out] at e6; subst e6; have HO6 := Lib.hid ho6; have K6 := Lib.hid (K5.out.kept (B := w0.heap.size) hg6 (fun k hk => (HO5.out.lt k hk).1) (by omega)); have BL6 := Lib.hid (Below.grown (show Below w0.heap.size w0 w5 from BL5.out) hg6 (Nat.le_trans BL5.out.size (by first | (simp; done) | (simp; omega))) (fun k hk => (HO5.out.lt k hk).1)); have HX6 := Lib.hid (HX5.out.kept hg6 (fun e => HNB.out _ e.symm rfl)); have v0 := HX6.out.1.1; have v1 := HX6.out.1.2; have f0 := HX6.out.2 0; have f1 := HX6.out.2 1; clear ho6 hg6 hat6)
        | (refine step_appendR2 w5 rfl (.tmp 12) (.tmp 14) rfl w0.heap.size v5 rs [(ra, rb, rc, rd)] 1 rfl ⟨_, 0, none⟩ 1 (by simp [Act.eval]) HO5.out (by simp [Act.eval]) (four_one HP5.out) hl1 (Nat.le_trans BL5.out.size (by first | (simp; done) | (simp; omega))) ?_; intro v6 w6 ho6 hg6 hat6;  obtain ⟨Y6, c6, e6, -, -, -⟩ := ho6.form; rw [HRLN.out] at e6; subst e6; have HO6 := Lib.hid ho6; have K6 := Lib.hid (K5.out.kept (B := w0.heap.size) hg6 (fun k hk => (HO5.out.lt k hk).1) (by omega)); have BL6 := Lib.hid (Below.grown (show Below w0.heap.size w0 w5 from BL5.out) hg6 (Nat.le_trans BL5.out.size (by first | (simp; done) | (simp; omega))) (fun k hk => (HO5.out.lt k hk).1)); clear ho6 hg6 hat6)
        | (refine step_appendR2 (w5.alloc (.cells #[.int .i64 0, .slice none 0 0] 30)) rfl (.tmp 12) (.tmp 14) rfl w0.heap.size v5 rs [(ra, rb, rc, rd)] 1 rfl ⟨_, 0, none⟩ 1 (by simp [Act.eval]) (HO5.out.alloc' _) (by simp [Act.eval]) (four_one (HP5.out.alloc _)) hl1 (Nat.le_trans BL5.out.size (by first | (simp; done) | (simp; omega))) ?_; intro v6 w6 ho6 hg6 hat6; have HN6 := Lib.hid (nb6 (BoxF.new' _ w5.heap.size 0 (.slice none 0 0) 30 rfl) hat6 (fun k hk => Nat.ne_of_lt (Nat.lt_of_lt_of_le (HO5.out.lt k hk).2 (by first | exact Nat.le_refl _ | (simp; done) | (simp; omega))))); obtain ⟨Y6, c6, e6, -, -, -⟩ := ho6.form; rw [HRLN.out] at e6; subst e6; have HO6 := Lib.hid ho6; have K6 := Lib.hid ((K5.out.alloc _).kept (B := w0.heap.size) hg6 (fun k hk => (HO5.out.lt k hk).1) (by omega)); have BL6 := Lib.hid (Below.grown (show Below w0.heap.size w0 (w5.alloc (.cells #[.int .i64 0, .slice none 0 0] 30)) from (BL5.out.alloc (by first | exact BL5.out.size | exact Nat.le_trans BL5.out.size (by first | (simp; done) | (simp; omega))) _)) hg6 (Nat.le_trans BL5.out.size (by first | (simp; done) | (simp; omega))) (fun k hk => (HO5.out.lt k hk).1)); have HX6 := Lib.hid ((BoxF.new' _ w5.heap.size 0 (.slice none 0 0) 30 rfl).kept hg6 (fun e => Nat.lt_irrefl _ (Nat.lt_of_lt_of_le (HO5.out.lt _ e.symm).2 (by first | (simp; done) | (simp; omega))))); have v0 := HX6.out.1.1; have v1 := HX6.out.1.2; have f0 := HX6.out.2 0; have f1 := HX6.out.2 1; clear ho6 hg6 hat6)
        | (refine step_appendR2 ((w5.alloc (.cells #[.int .i64 ra, .int .i64 rb, .int .i64 rc, .int .i64 rd] 34)).alloc (.cells #[.int .i64 0, .slice none 0 0] 30)) rfl (.tmp 12) (.tmp 14) rfl w0.heap.size v5 rs [(ra, rb, rc, rd)] 1 rfl ⟨_, 0, none⟩ 1 (by simp [Act.eval]) ((HO5.out.alloc' _).alloc' _) (by simp [Act.eval]) (four_one ((four_new' w5 w5.heap.size ra rb rc rd 34 rfl).alloc _)) hl1 (Nat.le_trans BL5.out.size (by first | (simp; done) | (simp; omega))) ?_; intro v6 w6 ho6 hg6 hat6; have HN6 := Lib.hid (nb6 (BoxF.new' _ (w5.heap.size + 1) 0 (.slice none 0 0) 30 (by simp)) hat6 (fun k hk => Nat.ne_of_lt (Nat.lt_of_lt_of_le (HO5.out.lt k hk).2 (by first | exact Nat.le_refl _ | (simp; done) | (simp; omega))))); obtain ⟨Y6, c6, e6, -, -, -⟩ := ho6.form; rw [HRLN.out] at e6; subst e6; have HO6 := Lib.hid ho6; have K6 := Lib.hid (((K5.out.alloc _).alloc _).kept (B := w0.heap.size) hg6 (fun k hk => (HO5.out.lt k hk).1) (by omega)); have BL6 := Lib.hid (Below.grown (show Below w0.heap.size w0 ((w5.alloc (.cells #[.int .i64 ra, .int .i64 rb, .int .i64 rc, .int .i64 rd] 34)).alloc (.cells #[.int .i64 0, .slice none 0 0] 30)) from ((BL5.out.alloc (by first | exact BL5.out.size | exact Nat.le_trans BL5.out.size (by first | (simp; done) | (simp; omega))) _).alloc (by first | exact BL5.out.size | exact Nat.le_trans BL5.out.size (by first | (simp; done) | (simp; omega))) _)) hg6 (Nat.le_trans BL5.out.size (by first | (simp; done) | (simp; omega))) (fun k hk => (HO5.out.lt k hk).1)); have HX6 := Lib.hid ((BoxF.new' _ (w5.heap.size + 1) 0 (.slice none 0 0) 30 (by simp)).kept hg6 (fun e => Nat.lt_irrefl _ (Nat.lt_of_lt_of_le (HO5.out.lt _ e.symm).2 (by first | (simp; done) | (simp; omega))))); have v0 := HX6.out.1.1; have v1 := HX6.out.1.2; have f0 := HX6.out.2 0; have f1 := HX6.out.2 1; clear ho6 hg6 hat6)
        | (refine step_appendR2 ((w5.alloc (.cells #[.int .i64 0, .slice none 0 0] 30)).alloc (.cells #[.int .i64 ra, .int .i64 rb, .int .i64 rc, .int .i64 rd] 34)) rfl (.tmp 12) (.tmp 14) rfl w0.heap.size v5 rs [(ra, rb, rc, rd)] 1 rfl ⟨_, 0, none⟩ 1 (by simp [Act.eval]) ((HO5.out.alloc' _).alloc' _) (by simp [Act.eval]) (four_one (four_new' _ (w5.heap.size + 1) ra rb rc rd 34 (by simp))) hl1 (Nat.le_trans BL5.out.size (by first | (simp; done) | (simp; omega))) ?_; intro v6 w6 ho6 hg6 hat6; have HN6 := Lib.hid (nb6 ((BoxF.new' _ w5.heap.size 0 (.slice none 0 0) 30 rfl).alloc' _) hat6 (fun k hk => Nat.ne_of_lt (Nat.lt_of_lt_of_le (HO5.out.lt k hk).2 (by first | exact Nat.le_refl _ | (simp; done) | (simp; omega))))); obtain ⟨Y6, c6, e6, -, -, -⟩ := ho6.form; rw [HRLN.out] at e6; subst e6; have HO6 := Lib.hid ho6; have K6 := Lib.hid (((K5.out.alloc _).alloc _).kept (B := w0.heap.size) hg6 (fun k hk => (HO5.out.lt k hk).1) (by omega)); have BL6 := Lib.hid (Below.grown (show Below w0.heap.size w0 ((w5.alloc (.cells #[.int .i64 0, .slice none 0 0] 30)).alloc (.cells #[.int .i64 ra, .int .i64 rb, .int .i64 rc, .int .i64 rd] 34)) from ((BL5.out.alloc (by first | exact BL5.out.size | exact Nat.le_trans BL5.out.size (by first | (simp; done) | (simp; omega))) _).alloc (by first | exact BL5.out.size | exact Nat.le_trans BL5.out.size (by first | (simp; done) | (simp; omega))) _)) hg6 (Nat.le_trans BL5.out.size (by first | (simp; done) | (simp; omega))) (fun k hk => (HO5.out.lt k hk).1)); have HX6 := Lib.hid (((BoxF.new' _ w5.heap.size 0 (.slice none 0 0) 30 rfl).alloc' _).kept hg6 (fun e => Nat.lt_irrefl _ (Nat.lt_of_lt_of_le (HO5.out.lt _ e.symm).2 (by first | (simp; done) | (simp; omega))))); have v0 := HX6.out.1.1; have v1 := HX6.out.1.2; have f0 := HX6.out.2 0; have f1 := HX6.out.2 1; clear ho6 hg6 hat6)
        | (refine step_appendR2 (w5.alloc (.cells #[.int .i64 ra, .int .i64 rb, .int .i64 rc, .int .i64 rd] 34)) rfl (.tmp 12) (.tmp 14) rfl w0.heap.size v5 rs [(ra, rb, rc, rd)] 1 rfl ⟨_, 0, none⟩ 1 (by simp [Act.eval]) (HO5.out.alloc' _) (by simp [Act.eval]) (four_one (four_new' w5 w5.heap.size ra rb rc rd 34 rfl)) hl1 (Nat.le_trans BL5.out.size (by first | (simp; done) | (simp; omega))) ?_; intro v6 w6 ho6 hg6 hat6; have HN6 := Lib.hid (nb6 (HX5.out.alloc' _) hat6 HNB.out); obtain ⟨Y6, c6, e6, -, -, -⟩ := ho6.form; rw [HRLN.out] at e6; subst e6; have HO6 := Lib.hid ho6; have K6 := Lib.hid ((K5.out.alloc _).kept (B := w0.heap.size) hg6 (fun k hk => (HO5.out.lt k hk).1) (by omega)); have BL6 := Lib.hid (Below.grown (show Below w0.heap.size w0 (w5.alloc (.cells #[.int .i64 ra, .int .i64 rb, .int .i64 rc, .int .i64 rd] 34)) from (BL5.out.alloc (by first | exact BL5.out.size | exact Nat.le_trans BL5.out.size (by first | (simp; done) | (simp; omega))) _)) hg6 (Nat.le_trans BL5.out.size (by first | (simp; done) | (simp; omega))) (fun k hk => (HO5.out.lt k hk).1)); have HX6 := Lib.hid ((HX5.out.alloc' _).kept hg6 (fun e => HNB.out _ e.symm rfl)); have v0 := HX6.out.1.1; have v1 := HX6.out.1.2; have f0 := HX6.out.2 0; have f1 := HX6.out.2 1; clear ho6 hg6 hat6)
        | (refine step_appendR2 (w5.alloc (.cells #[.int .i64 ra, .int .i64 rb, .int .i64 rc, .int .i64 rd] 34)) rfl (.tmp 12) (.tmp 14) rfl w0.heap.size v5 rs [(ra, rb, rc, rd)] 1 rfl ⟨_, 0, none⟩ 1 (by simp [Act.eval]) (HO5.out.alloc' _) (by simp [Act.eval]) (four_one (four_new' w5 w5.heap.size ra rb rc rd 34 rfl)) hl1 (Nat.le_trans BL5.out.size (by first | (simp; done) | (simp; omega))) ?_; intro v6 w6 ho6 hg6 hat6;  obtain ⟨Y6, c6, e6, -, -, -⟩ := ho6.form; rw [HRLN.out] at e6; subst e6; have HO6 := Lib.hid ho6; have K6 := Lib.hid ((K5.out.alloc _).kept (B := w0.heap.size) hg6 (fun k hk => (HO5.out.lt k hk).1) (by omega)); have BL6 := Lib.hid (Below.grown (show Below w0.heap.size w0 (w5.alloc (.cells #[.int .i64 ra, .int .i64 rb, .int .i64 rc, .int .i64 rd] 34)) from (BL5.out.alloc (by first | exact BL5.out.size | exact Nat.le_trans BL5.out.size (by first | (simp; done) | (simp; omega))) _)) hg6 (Nat.le_trans BL5.out.size (by first | (simp; done) | (simp; omega))) (fun k hk => (HO5.out.lt k hk).1)); clear ho6 hg6 hat6))
    all_goals first
      | (go_wp2_with fail; go_meet; exact ⟨_, _, _, rfl, HX6.out.set01 s _, (HO6.out.kept (setCell_grown _ _ _) HN6.out).kept (setCell_grown _ _ _) HN6.out, (K6.out.set (by first | omega | (simp; omega))).set (by first | omega | (simp; omega)), (BL6.out.setCell (by first | (simp; done) | (simp; omega)) _).setCell (by first | (simp; done) | (simp; omega)) _⟩)
      | (go_wp2_with fail; go_meet; exact ⟨_, _, _, rfl, BoxF.new w6 s _ _, HO6.out.alloc' _, K6.out.alloc _, BL6.out.alloc BL6.out.size _⟩)
  case rest =>
    obtain ⟨gB, Y6, c6, rfl, hxb, hob, hkb, hbb⟩ := hcut
    have HXc := Lib.hid hxb
    have HOc := Lib.hid hob
    have HTc := Lib.hid (HT0.out.below hbb)
    have HBc := Lib.hid (Below.then HB0.out hbb)
    have y0 := hkb.1
    have y1 := hkb.2.1
    clear hxb hob hkb hbb K0 KD ND BD
    rcases q0 : leagueB s rs with _ | _
    · obtain ⟨e1, e2⟩ := ad_no (s := s) (rs := rs) (r := (ra, rb, rc, rd)) (by simp [adOk, q0])
      have HE := Lib.hid (And.intro e1 (And.intro e2 (show adOk s rs (ra, rb, rc, rd) = false by simp [adOk, q0])))
      clear e1 e2
      go_wp2_with fail
      refine (specLeagueOk s _ rs _ (HR.out.below HBc.out)).mono ?_
      rintro e w1 ⟨rfl, hb1⟩
      rw [q0]
      have HB1 := Lib.hid (Below.then HBc.out hb1)
      have HT1 := Lib.hid (HTc.out.below hb1)
      clear hb1 y0 y1
      have v0 := HT1.out.1.1
      have v1 := HT1.out.1.2
      have f0 := HT1.out.2 0
      have f1 := HT1.out.2 1
      have HBx := Lib.hid ((HB1.out.setCell (p := ⟨w.heap.size + 1 + 1, 0, none⟩) (show w.heap.size ≤ w.heap.size + 1 + 1 by omega) (.int .i64 0)).setCell (p := ⟨w.heap.size + 1 + 1, 1, none⟩) (show w.heap.size ≤ w.heap.size + 1 + 1 by omega) (.slice none 0 0))
      have R0 : Hid (((w1.setCell ⟨w.heap.size + 1 + 1, 0, none⟩ (.int .i64 0)).setCell ⟨w.heap.size + 1 + 1, 1, none⟩ (.slice none 0 0)).cell? ⟨w.heap.size + 1 + 1, 0, none⟩ = some (.int .i64 0)) := (World.cell?_setCell_other _ _ _ _ (by simp)).trans (World.cell?_setCell_same _ _ _ v0)
      have R1 : Hid (((w1.setCell ⟨w.heap.size + 1 + 1, 0, none⟩ (.int .i64 0)).setCell ⟨w.heap.size + 1 + 1, 1, none⟩ (.slice none 0 0)).cell? ⟨w.heap.size + 1 + 1, 1, none⟩ = some (.slice none 0 0)) := World.cell?_setCell_same _ _ _ ((World.cell?_setCell_other _ _ _ _ (by simp)).trans v1)
      go_wp2
      have r0 := R0.out
      have r1 := R1.out
      refine bodyPost_ret (v := .tuple #[.agg #[.int .i64 0, .slice none 0 0], .bool false]) (by simp only [results, Try.results10]; simp [go_sem, r0, r1]) rfl ⟨.slice none 0 0, by rw [HE.out.1, HE.out.2.2], ?_, HBx.out⟩
      rw [HE.out.2.1]
      exact OwnR.nil_ _ _
    · rcases qn : leagueB s (rs ++ [(ra, rb, rc, rd)]) with _ | _
      all_goals
        go_wp2_with fail
        refine (specLeagueOk s _ rs _ (HR.out.below HBc.out)).mono ?_
        rintro e w1 ⟨rfl, hb1⟩
        rw [q0]
        have HB1 := Lib.hid (Below.then HBc.out hb1)
        have HT1 := Lib.hid (HTc.out.below hb1)
        have HX1 := Lib.hid (HXc.out.below hb1)
        have HO1 := Lib.hid (HOc.out.below hb1)
        have x0 := HX1.out.1.1
        have x1 := HX1.out.1.2
        clear hb1 y0 y1
        go_wp2_with fail
        refine (specLeagueOk s _ (rs ++ [(ra, rb, rc, rd)]) _ HO1.out.rd).mono ?_
        rintro e w2 ⟨rfl, hb2⟩
        rw [qn]
        have HB2 := Lib.hid (Below.then HB1.out hb2)
        have HT2 := Lib.hid (HT1.out.below hb2)
        have HX2 := Lib.hid (HX1.out.below hb2)
        have HO2 := Lib.hid (HO1.out.below hb2)
        clear hb2 x0 x1
      · obtain ⟨e1, e2⟩ := ad_no (s := s) (rs := rs) (r := (ra, rb, rc, rd)) (by simp [adOk, q0, qn])
        have HE := Lib.hid (And.intro e1 (And.intro e2 (show adOk s rs (ra, rb, rc, rd) = false by simp [adOk, q0, qn])))
        clear e1 e2
        have v0 := HT2.out.1.1
        have v1 := HT2.out.1.2
        have f0 := HT2.out.2 0
        have f1 := HT2.out.2 1
        have HBx := Lib.hid ((HB2.out.setCell (p := ⟨w.heap.size + 1 + 1, 0, none⟩) (show w.heap.size ≤ w.heap.size + 1 + 1 by omega) (.int .i64 0)).setCell (p := ⟨w.heap.size + 1 + 1, 1, none⟩) (show w.heap.size ≤ w.heap.size + 1 + 1 by omega) (.slice none 0 0))
        have R0 : Hid (((w2.setCell ⟨w.heap.size + 1 + 1, 0, none⟩ (.int .i64 0)).setCell ⟨w.heap.size + 1 + 1, 1, none⟩ (.slice none 0 0)).cell? ⟨w.heap.size + 1 + 1, 0, none⟩ = some (.int .i64 0)) := (World.cell?_setCell_other _ _ _ _ (by simp)).trans (World.cell?_setCell_same _ _ _ v0)
        have R1 : Hid (((w2.setCell ⟨w.heap.size + 1 + 1, 0, none⟩ (.int .i64 0)).setCell ⟨w.heap.size + 1 + 1, 1, none⟩ (.slice none 0 0)).cell? ⟨w.heap.size + 1 + 1, 1, none⟩ = some (.slice none 0 0)) := World.cell?_setCell_same _ _ _ ((World.cell?_setCell_other _ _ _ _ (by simp)).trans v1)
        go_wp2
        have r0 := R0.out
        have r1 := R1.out
        refine bodyPost_ret (v := .tuple #[.agg #[.int .i64 0, .slice none 0 0], .bool false]) (by simp only [results, Try.results10]; simp [go_sem, r0, r1]) rfl ⟨.slice none 0 0, by rw [HE.out.1, HE.out.2.2], ?_, HBx.out⟩
        rw [HE.out.2.1]
        exact OwnR.nil_ _ _
      · obtain ⟨e1, e2⟩ := ad_yes (s := s) (rs := rs) (r := (ra, rb, rc, rd)) (by simp [adOk, q0, qn])
        have HE := Lib.hid (And.intro e1 (And.intro e2 (show adOk s rs (ra, rb, rc, rd) = true by simp [adOk, q0, qn])))
        clear e1 e2
        have v0 := HT2.out.1.1
        have v1 := HT2.out.1.2
        have f0 := HT2.out.2 0
        have f1 := HT2.out.2 1
        have x20 := HX2.out.1.1
        have x21 := HX2.out.1.2
        have HBx := Lib.hid ((HB2.out.setCell (p := ⟨w.heap.size + 1 + 1, 0, none⟩) (show w.heap.size ≤ w.heap.size + 1 + 1 by omega) (.int .i64 s)).setCell (p := ⟨w.heap.size + 1 + 1, 1, none⟩) (show w.heap.size ≤ w.heap.size + 1 + 1 by omega) (.slice Y6 (rs.length + 1) c6))
        have R0 : Hid (((w2.setCell ⟨w.heap.size + 1 + 1, 0, none⟩ (.int .i64 s)).setCell ⟨w.heap.size + 1 + 1, 1, none⟩ (.slice Y6 (rs.length + 1) c6)).cell? ⟨w.heap.size + 1 + 1, 0, none⟩ = some (.int .i64 s)) := (World.cell?_setCell_other _ _ _ _ (by simp)).trans (World.cell?_setCell_same _ _ _ v0)
        have R1 : Hid (((w2.setCell ⟨w.heap.size + 1 + 1, 0, none⟩ (.int .i64 s)).setCell ⟨w.heap.size + 1 + 1, 1, none⟩ (.slice Y6 (rs.length + 1) c6)).cell? ⟨w.heap.size + 1 + 1, 1, none⟩ = some (.slice Y6 (rs.length + 1) c6)) := World.cell?_setCell_same _ _ _ ((World.cell?_setCell_other _ _ _ _ (by simp)).trans v1)
        have HOx := Lib.hid ((HO2.out.kept (setCell_grown _ ⟨w.heap.size + 1 + 1, 0, none⟩ (.int .i64 s)) (own_ne (fun k hk => (HO2.out.lt k hk).1) hszl)).kept (setCell_grown _ ⟨w.heap.size + 1 + 1, 1, none⟩ (.slice Y6 (rs.length + 1) c6)) (own_ne (fun k hk => (HO2.out.lt k hk).1) hszl))
        have hsw := HB0.out.size
        go_wp2
        have r0 := R0.out
        have r1 := R1.out
        refine bodyPost_ret (v := .tuple #[.agg #[.int .i64 s, .slice Y6 (rs.length + 1) c6], .bool true]) (by simp only [results, Try.results10]; simp [go_sem, r0, r1]) rfl ⟨.slice Y6 (rs.length + 1) c6, by rw [HE.out.1, HE.out.2.2], ?_, HBx.out⟩
        rw [HE.out.2.1]
        exact HOx.out.mono hsw
end Go.Proofs.Ytceeplhkokajhaa
